/- The number of a rest. -/
import Derived.Test.YtjhcemhnnkcjaaaDoorProg
import Derived.Test.YtjhcemhnnkcjaaaDoorGray
import Derived.Test.YtjhcemhnnkcjaaaDoorLaid
import Derived.Deep.MidRow
namespace Go.Proofs.YtjhcemhnnkcjaaaDoor
open Go.RowKit
theorem rest_range (w : World) (n : Nat) (b : List Bool) : (w.alloc (.cells (restC n b) 68)).rangeAt w.heap.size 1 (b.map Value.bool) := by
  intro j v hv
  rw [Blk.cell (Blk.new w _ _), restC_at]
  simpa using hv
theorem info_bools (b : List Bool) (h : b.length = 16) : (Tryd.prog.info? 66).map (·.size) = some (b.map Value.bool).length := by
  rw [List.length_map, h]; kernel_rfl
set_option maxRecDepth 100000 in
set_option maxHeartbeats 400000 in
theorem number_any (n : Nat) (b : List Bool) (hb : b.length = 16) (w : World) :
    Calls Tryd.prog 50 #[.agg (restC n b)] w fun e w' => e = .returned (.int .i64 (gx 4 (binS b) : Nat)) ∧ Below w.heap.size w w' := by
  have hL := Lib.hid hb
  go_enter Tryd.func50, Tryd.ntmps50
  clear hb
  go_wp2_with (first
    | (with_reducible show wpList _ _ _ (⟨_, .load 66 _, _, _, _, _⟩ :: _) _ _
       refine wpList_load_mid rfl 66 _ rfl w.heap.size 1 rfl (b.map Value.bool) _ (rest_range w n b) Tryd.underlying66 rfl (info_bools b hL.out) ?_))
  go_loop [9, 3] (fun i n => ∃ k : Nat, k ≤ 16 ∧ i = .int .i64 k ∧ n = .int .i64 (binS (b.take k) : Nat)) (fun i _ => 16 - (intOf i).toNat)
  case atStart => exact ⟨0, by omega, rfl, rfl⟩
  case round =>
    obtain ⟨k, hk, rfl, rfl⟩ := hrel
    by_cases hlt : k < 16
    · obtain ⟨x, hx⟩ : ∃ x, b[k]? = some x := ⟨b[k]'(by rw [hL.out]; exact hlt), List.getElem?_eq_getElem _⟩
      have hidx := run_index_cells (P := Tryd.prog) (b.map Value.bool).toArray .i64 k (.bool x) Tryd.underlying66 Tryd.underlying4 rfl (by kernel_rfl) hlt (by simp [hx])
      have hS := Lib.hid hx
      clear hx
      cases x
      · have hN := Lib.hid (no_step hS.out)
        go_wp2_with (fail)
        go_round
        case rel => exact ⟨k + 1, by omega, by go_num, by rw [hN.out]⟩
        case measure => simp [intOf]; omega
      · have hN := Lib.hid (or_step hlt hS.out)
        go_wp2_with (fail)
        go_round
        case rel => exact ⟨k + 1, by omega, by go_num, by rw [hN.out]⟩
        case measure => simp [intOf]; omega
    · obtain rfl : k = 16 := by omega
      have hT : b.take 16 = b := List.take_of_length_le (by rw [hL.out]; exact Nat.le_refl _)
      have hlt16 : binS b < 65536 := by have := binS_lt b; rw [hL.out] at this; exact this
      rw [hT]
      have hH := Lib.hid hlt16
      clear hT hlt16
      obtain ⟨N, hN⟩ : ∃ N, N = binS b := ⟨_, rfl⟩
      rw [← hN] at hH ⊢
      have hNN := Lib.hid hN
      clear hN
      go_wp2_with (fail)
      go_loop [6, 3] (fun i n => ∃ j : Nat, j ≤ 4 ∧ i = .int .i64 (2 ^ j : Nat) ∧ n = .int .i64 (gx j N : Nat)) (fun i _ => 17 - (intOf i).toNat)
      case atStart => exact ⟨0, by omega, rfl, rfl⟩
      case round =>
        obtain ⟨j, hj, rfl, rfl⟩ := hrel
        have hX := Lib.hid (xor_step j N hH.out)
        have hj' : j = 0 ∨ j = 1 ∨ j = 2 ∨ j = 3 ∨ j = 4 := by omega
        rcases hj' with rfl | rfl | rfl | rfl | rfl
        · go_wp2_with (fail)
          go_round
          case rel => exact ⟨1, by omega, by simp, by rw [← hX.out]; simp⟩
          case measure => simp [intOf]
        · go_wp2_with (fail)
          go_round
          case rel => exact ⟨2, by omega, by simp, by rw [← hX.out]; simp⟩
          case measure => simp [intOf]
        · go_wp2_with (fail)
          go_round
          case rel => exact ⟨3, by omega, by simp, by rw [← hX.out]; simp⟩
          case measure => simp [intOf]
        · go_wp2_with (fail)
          go_round
          case rel => exact ⟨4, by omega, by simp, by rw [← hX.out]; simp⟩
          case measure => simp [intOf]
        · go_wp2_with (fail)
          go_ret
          exact ⟨by rw [← hNN.out]; rfl, (Below.refl _ _).alloc (Nat.le_refl _) _⟩
end Go.Proofs.YtjhcemhnnkcjaaaDoor
