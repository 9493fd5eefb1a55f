/- The position of a rest. -/
import Derived.Test.YtjhcemhnnkcjaaaDoorProg
import Derived.Test.YtjhcemhnnkcjaaaDoorNum
import Derived.Test.YtjhcemhnnkcjaaaDoorLaid
import Derived.Deep.OwnRows
namespace Go.Proofs.YtjhcemhnnkcjaaaDoor
open Go.RowKit
theorem infoI : (Tryd.prog.info? 3).map (fun i => (i.zero, i.size, i.bytes)) = some (some (.int .i64 0), 1, 8) := by kernel_rfl
set_option maxRecDepth 100000 in
set_option maxHeartbeats 400000 in
theorem list_any (n : Nat) (xs : List Int) (hl : xs.length = n) (hb : bin xs) (hn : n ≤ 16) (hn0 : n ≠ 0) (w : World) :
    Calls Tryd.prog 53 #[.agg (restC n (pad xs))] w fun e w' => ∃ g, e = .returned (.slice (some ⟨g, 0, none⟩) n n) ∧ RInts w' w'.heap.size (some ⟨g, 0, none⟩) n xs ∧ Below w.heap.size w w' := by
  have hL := Lib.hid hl
  clear hl
  have hB := Lib.hid hb
  clear hb
  have hmk := run_make_row' (P := Tryd.prog) 22 3 (.int .i64 0) 8 Tryd.underlying22 infoI rfl .i64 .i64 n (by omega) (by omega)
  have h0 := restC_zero n (pad xs)
  go_enter Tryd.func53, Tryd.ntmps53
  go_wp2_with (fail)
  rw [intArr_made]
  go_loopw [10] (fun i wr => ∃ k : Nat, k ≤ n ∧ i = .int .i64 k ∧ Blk wr w.heap.size 68 (restC n (pad xs)) ∧ Blk wr (w.heap.size + 1) 3 (intArr (fillI n xs k)) ∧ Below w.heap.size w wr) (fun i _ => n - (intOf i).toNat)
  case atStart => exact ⟨0, by omega, rfl, heap_alloc2_old _ _ _, by rw [fillI_zero]; exact heap_alloc2_new _ _ _, ((Below.refl _ _).alloc (Nat.le_refl _) _).alloc (by simp) _⟩
  case round =>
    obtain ⟨k, hk, rfl, hB0, hB1, hBe⟩ := hrel
    by_cases hlt : k < n
    · obtain ⟨x, hx⟩ : ∃ x, xs[k]? = some x := ⟨xs[k]'(by rw [hL.out]; exact hlt), List.getElem?_eq_getElem _⟩
      have hX := Lib.hid hx
      have hc0 : wr.cell? ⟨w.heap.size, 1 + k, none⟩ = some (.bool (x == 1)) := by
        rw [hB0.cell, restC_at, pad, List.getElem?_map, List.getElem?_range (by omega)]
        simp [hx]
      have hc1 : wr.cell? ⟨w.heap.size + 1, k, none⟩ = some (.int .i64 0) := by rw [hB1.cell, intArr_at, fillI_at hL.out hlt]; rfl
      have hfz := hB1.frozen k
      rcases hB.out x (List.mem_of_getElem? hx) with rfl | rfl
      · clear hx
        have hbb : ((0 : Int) == 1) = false := rfl
        rw [hbb] at hc0
        go_wp2_with (fail)
        go_roundw
        case rel => exact ⟨k + 1, by omega, by go_num, hB0, by rw [← fillI_skip hL.out hX.out]; exact hB1, hBe⟩
        case measure => simp [intOf]; omega
      · clear hx
        have hbb : ((1 : Int) == 1) = true := rfl
        rw [hbb] at hc0
        have hN := hB1.set_ k (.int .i64 1)
        rw [intArr_set, fillI_set hL.out hX.out] at hN
        have hN0 := hB0.far (p := ⟨w.heap.size + 1, k, none⟩) (by simp) (.int .i64 1)
        have hNe := hBe.setCell (p := ⟨w.heap.size + 1, k, none⟩) (by simp) (.int .i64 1)
        go_wp2_with (fail)
        go_roundw
        case rel => exact ⟨k + 1, by omega, by go_num, hN0, hN, hNe⟩
        case measure => simp [intOf]; omega
    · obtain rfl : k = n := by omega
      rw [fillI_end hL.out] at hB1
      go_wp2_with (fail)
      go_ret
      exact ⟨_, rfl, RInts.of_blk hB1 hL.out, hBe⟩
end Go.Proofs.YtjhcemhnnkcjaaaDoor
