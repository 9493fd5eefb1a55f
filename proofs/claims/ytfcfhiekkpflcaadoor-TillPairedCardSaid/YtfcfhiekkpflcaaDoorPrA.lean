/- The law's TillPaired: its tools. -/
import Derived.Test.YtfcfhiekkpflcaaDoorWorks
import Derived.Test.YtfcfhiekkpflcaaDoorPrP
import Derived.Test.YtfcfhiekkpflcaaDoorMapB
import Derived.Test.YtfcfhiekkpflcaaDoorLawNeeded
import Derived.Deep.CutRange
namespace Go.Proofs.YtfcfhiekkpflcaaDoor
open Go.RowKit Go.Maps
theorem keyInt : Keyed Tryd.prog 3 := int_keyed Tryd.underlying3
theorem keyInt_of (k : Nat) (hk : k ≤ 1000000) : keyOf Tryd.prog 3 (.int .i64 (k : Int)) = some (.int .i64 (k : Int)) :=
  keyOf_int_mk Tryd.underlying3 (by simp [Lit.wf, IntKind.min, IntKind.max, IntKind.signed, IntKind.bits]; omega)
/-- the top is cut off an own list -/
theorem OwnI.cut {w : World} {base g cap n : Nat} {xs : List Int} {y : Int} (h : OwnI w base (.slice (some ⟨g, 0, none⟩) n cap) (xs ++ [y])) : OwnI w base (.slice (some ⟨g, 0, none⟩) xs.length cap) xs := by
  refine ⟨by rw [ints_length, Nat.mul_one], ?_⟩
  rcases h.2 with ⟨e, _⟩ | ⟨g', cap', cur, e, hb, hg, hc, hm, hsz, htk⟩
  · cases e
  · injection e with e1 e2 e3
    injection e1 with e1
    injection e1 with e1
    subst e1 e3
    right
    refine ⟨g, cap, cur, rfl, hb, hg, ?_, hm, hsz, ?_⟩
    · rw [List.length_append, List.length_singleton] at hc; omega
    · have e : ints xs = (ints (xs ++ [y])).take xs.length := by rw [ints_append, List.take_append_of_le_length (by rw [ints_length]; exact Nat.le_refl _), List.take_of_length_le (by rw [ints_length]; exact Nat.le_refl _)]
      rw [e, ← htk, List.take_take]
      congr 1
      simp
theorem OwnP.cap {w : World} {base n c : Nat} {A : Option Addr} {ps : List (Nat × Nat)} (h : OwnP w base (.slice A n c) ps) : ps.length ≤ c := by
  rcases h.2 with ⟨e, h0⟩ | ⟨g', cap', cur, e, _, _, hc, _⟩
  · injection e with _ _ e3
    subst e3
    omega
  · injection e with _ _ e3
    subst e3
    exact hc
theorem sizePr : (Tryd.prog.info? 52).map (·.size) = some 2 := by kernel_rfl
theorem pr_one (a b : Int) : (#[Value.int .i64 a, Value.int .i64 b]).all (·.oneCell') = true := by simp [Value.oneCell']
theorem zero_pr (w : World) : (zeroValue 52).run Tryd.prog w = .ok (.agg #[.int .i64 0, .int .i64 0]) w := Tryd.zeroValue52 w
end Go.Proofs.YtfcfhiekkpflcaaDoor
