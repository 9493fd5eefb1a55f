/- The rest of so many rings at a place of the line. -/
import Derived.Test.YtjhcemhnnkcjaaaDoorProg
import Derived.Test.YtjhcemhnnkcjaaaDoorGray
import Derived.Test.YtjhcemhnnkcjaaaDoorLaid
namespace Go.Proofs.YtjhcemhnnkcjaaaDoor
open Go.RowKit
theorem gray_take_step (r n k : Nat) (hk : k < r) : (grayS r n)[k]? = some ((((n ^^^ n / 2) / 2 ^ k % 2 : Nat)) : Int) := by rw [grayS_at r n k hk, gray_bit]
set_option maxRecDepth 100000 in
set_option maxHeartbeats 400000 in
theorem numbered_any (r n : Nat) (hr : r ≤ 16) (hn : n < 65536) (w : World) :
    Calls Tryd.prog 52 #[.int .i64 r, .int .i64 n] w fun e w' => e = .returned (.agg (restC r (pad (grayS r n)))) ∧ Below w.heap.size w w' := by
  go_enter Tryd.func52, Tryd.ntmps52
  go_wp2_with (first
      | (with_reducible show wpList _ _ _ (⟨_, .store 68 (.tmp 5) _, _, _, _, _⟩ :: _) _ _
         refine wpList_store_blk rfl 68 _ _ rfl (w.heap.size + 1) (restC r (pad [])) rfl rfl 68 (restC 0 (pad [])) (heap_alloc2_new _ _ _) (info_rest' r []) rfl (restC_one _ _) ?_
         intro W1 hB1 hg1
         have hB0 : Blk W1 w.heap.size 68 (restC 0 (pad [])) := Blk.grown (heap_alloc2_old _ _ _) hg1 (by simp)
         have hBe : Below w.heap.size w W1 := (((Below.refl _ _).alloc (Nat.le_refl _) _).alloc (by simp) _).grown hg1 (by simp; omega) (by simp)
         clear hg1))
  go_loopw [10] (fun i wr => ∃ k : Nat, k ≤ r ∧ i = .int .i64 k ∧ Blk wr w.heap.size 68 (restC 0 (pad [])) ∧ Blk wr (w.heap.size + 1) 68 (restC r (pad ((grayS r n).take k))) ∧ Below w.heap.size w wr) (fun i _ => r - (intOf i).toNat)
  case atStart => exact ⟨0, by omega, rfl, hB0, hB1, hBe⟩
  case round =>
    clear hB0 hB1 hBe
    obtain ⟨k, hk, rfl, hB0, hB1, hBe⟩ := hrel
    by_cases hlt : k < r
    · obtain ⟨u, hu⟩ := restC_cell (xs := (grayS r n).take k) (n := r) (k := k) (by omega)
      have hcell : wr.cell? ⟨w.heap.size + 1, 1 + k, none⟩ = some (.bool u) := by rw [hB1.cell, hu]
      have hfz := hB1.frozen (1 + k)
      have hU := Lib.hid hu
      clear hu
      have hg := Lib.hid (gray_take_step r n k hlt)
      go_wp2_with (fail)
      go_roundw
      case rel =>
        rw [gray_go hn]
        refine ⟨k + 1, by omega, by go_num, hB0.far (by simp) _, ?_, hBe.setCell (by simp) _⟩
        have := hB1.set_ (1 + k) (.bool ((((n ^^^ n / 2) / 2 ^ k % 2 : Nat) : Int) == 1))
        rwa [restC_set, pad_step (by omega) hg.out] at this
      case measure => simp [intOf]; omega
    · obtain rfl : k = r := by omega
      rw [pad_end (by rw [grayS_length]; exact Nat.le_refl _)] at hB1
      go_wp2_with (first
        | (with_reducible show wpList _ _ _ (⟨_, .load 68 (.tmp 5), _, _, _, _⟩ :: _) _ _
           refine wpList_load_blk rfl 68 _ rfl (w.heap.size + 1) rfl 68 (restC k (pad (grayS k n))) _ hB1 Tryd.underlying68 rfl (info_rest' k _) ?_)
        | (with_reducible show wpList _ _ _ (⟨_, .store 68 (.tmp 4) _, _, _, _, _⟩ :: _) _ _
           refine wpList_store_blk rfl 68 _ _ rfl w.heap.size (restC k (pad (grayS k n))) rfl rfl 68 (restC 0 (pad [])) (by assumption) (info_rest' k _) (restC_sizes _ _ _ _) (restC_one _ _) ?_
           intro W2 hB2 hg2
           have hBe2 : Below w.heap.size w W2 := hBe.grown hg2 hBe.size (by simp)
           clear hg2))
      exact bodyPost_ret (results_cell_row rfl _ _ w.heap.size 68 (restC k (pad (grayS k n))) (0, 0) _ rfl hB2 Tryd.underlying68 rfl (info_rest' k _)) rfl ⟨rfl, hBe2⟩
end Go.Proofs.YtjhcemhnnkcjaaaDoor
