/- The works of branch: an example of chapter 11. -/
import Derived.Test.YtkbfmogjhjdjmaaDoorTwB
import Derived.Test.YtkbfmogjhjdjmaaDoorBrAll
namespace Go.Proofs.YtkbfmogjhjdjmaaDoor
open Go.RowKit
namespace Tw
def exT : List (Nat × Nat) := [(2, 0), (3, 0), (1, 3)]
theorem exT_wood : Br.woodT 4 exT 3 = [12, 8, 1, 3] := by decide
theorem exT_tree : Br.Tree 4 exT := by
  refine ⟨by omega, by omega, by decide, ?_, ?_⟩
  · intro i a b h
    have hi : i < 3 := (List.getElem?_eq_some_iff.1 h).1
    have h3 : i = 0 ∨ i = 1 ∨ i = 2 := by omega
    rcases h3 with rfl | rfl | rfl
    · obtain ⟨rfl, rfl⟩ : 2 = a ∧ 0 = b := by simpa [exT] using h
      decide
    · obtain ⟨rfl, rfl⟩ : 3 = a ∧ 0 = b := by simpa [exT] using h
      decide
    · obtain ⟨rfl, rfl⟩ : 1 = a ∧ 3 = b := by simpa [exT] using h
      decide
  · decide +kernel
theorem exT_step : ∀ i, i < 4 - 2 → Br.OkS 4 (Br.pruW (Br.woodT 4 exT exT.length) i) := by
  intro i hi
  have h3 : i = 0 ∨ i = 1 := by omega
  rcases h3 with rfl | rfl
  · exact ⟨by decide +kernel, by decide +kernel, by decide +kernel, by decide +kernel, by decide +kernel, by decide +kernel, by decide +kernel⟩
  · exact ⟨by decide +kernel, by decide +kernel, by decide +kernel, by decide +kernel, by decide +kernel, by decide +kernel, by decide +kernel⟩
theorem exT_list : Br.pruL (Br.woodT 4 exT exT.length) (4 - 2) = [3, 0] := by decide +kernel
theorem w_write {w0 w : World} {l : List (Option Addr × Nat × List Int)} (h : Wk w0 w l) : Calls Tryd.prog 32 #[.agg #[.int .i64 4, .slice (some ⟨w.heap.size, 0, none⟩) 3 3]] (w.alloc (.cells #[.int .i64 2, .int .i64 0, .int .i64 3, .int .i64 0, .int .i64 1, .int .i64 3] 37))
    fun e w' => ∃ A c, e = .returned (.tuple #[.slice A 2 c, .int .i64 0]) ∧ Wk w0 w' ((A, 2, [3, 0]) :: l) := by
  have hb := (Below.refl w.heap.size w).alloc (Nat.le_refl _) (.cells #[.int .i64 2, .int .i64 0, .int .i64 3, .int .i64 0, .int .i64 1, .int .i64 3] 37)
  have hw := Br.Write_ok 4 exT exT_tree (by omega) exT_step (some ⟨w.heap.size, 0, none⟩) 3 _ (Br.TieS.of_blk (Blk.new w 37 (Br.tArr exT).toArray))
  rw [exT_list] at hw
  refine Calls.mono hw ?_
  rintro e w' ⟨⟨A, cp, rfl, hr⟩, hb2⟩
  exact ⟨A, cp, rfl, (h.step (hb.trans (hb2.mono hb.size))).add hr⟩
set_option maxRecDepth 100000 in
set_option maxHeartbeats 2000000 in
theorem branchWorks_any (w1 : World) (hT : Cl.Tab w1) : Calls Tryd.prog 22 #[] w1 fun e w' => e = .returned (.bool true) ∧ Below w1.heap.size w1 w' := by
  have hS := Wk.start hT
  go_enter Tryd.func22, Tryd.ntmps22
  go_wp2_with (first
    | (go_at_call 32; refine (w_write hS).mono ?_; rintro e w1 ⟨A, c, rfl, hS2⟩; replace hS := hS2; clear hS2)
    | (go_at_call_of 34 (Value.slice (some ⟨w1.heap.size, 0, none⟩) 2 2); refine (w_list2 hS _ _).mono ?_; rintro e w1 ⟨g, rfl, hS2⟩; replace hS := hS2; clear hS2)
    | (go_at_call 33; refine (w_same hS (.head _) (by decide)).mono ?_; rintro e w1 ⟨rfl, hS2⟩; replace hS := hS2; clear hS2)
    | (go_at_call 35; refine (bunchWorks_any _ hS.2.2).mono ?_; rintro e w9 ⟨rfl, hb9⟩; replace hS := hS.step hb9))
  go_ret
  exact ⟨rfl, hS.2.1⟩
end Tw
end Go.Proofs.YtkbfmogjhjdjmaaDoor
