/- The examples of the chapter, one by one. (Printed by genex.py.) -/
import Derived.Test.YtdaaiockkbolbaaRuleL
namespace Go.Proofs.Ytdaaiockkbolbaa
open Go.RowKit
set_option maxRecDepth 100000 in
set_option maxHeartbeats 4000000 in
theorem ex_w0 (w : World) : Calls Try.prog 13 #[.string ⟨#[97, 98, 99, 98, 99]⟩] w fun e w' => e = .returned (.tuple #[.int .i64 1, .int .i64 2, .int .i64 0]) ∧ Below w.heap.size w w' := by
  refine (Repeat_any (⟨#[97, 98, 99, 98, 99]⟩) w).mono ?_
  rintro e w' ⟨rfl, hb⟩
  exact ⟨by kernel_rfl, hb⟩
set_option maxRecDepth 100000 in
set_option maxHeartbeats 4000000 in
theorem ex_w1 (w : World) : Calls Try.prog 15 #[.string ⟨#[97, 98, 99, 97, 99, 98]⟩] w fun e w' => e = .returned (.tuple #[.bool true, .int .i64 0]) ∧ Below w.heap.size w w' := by
  refine (Clear_any (⟨#[97, 98, 99, 97, 99, 98]⟩) w).mono ?_
  rintro e w' ⟨rfl, hb⟩
  exact ⟨by kernel_rfl, hb⟩
set_option maxRecDepth 100000 in
set_option maxHeartbeats 4000000 in
theorem ex_w2 (w : World) : Calls Try.prog 19 #[.string ⟨#[97, 98, 99, 98]⟩, .int .i64 3] w fun e w' => e = .returned (.tuple #[.string ⟨#[97]⟩, .int .i64 0]) ∧ Below w.heap.size w w' := by
  refine (Next_any (⟨#[97, 98, 99, 98]⟩) (3) w).mono ?_
  rintro e w' ⟨rfl, hb⟩
  exact ⟨by kernel_rfl, hb⟩
set_option maxRecDepth 100000 in
set_option maxHeartbeats 4000000 in
theorem ex_w3 (w : World) : Calls Try.prog 21 #[.string ⟨#[97, 98]⟩, .int .i64 3, .int .i64 8] w fun e w' => e = .returned (.tuple #[.string ⟨#[97, 98, 97, 99, 97, 98, 99, 97]⟩, .int .i64 0]) ∧ Below w.heap.size w w' := by
  refine (Longer_any (⟨#[97, 98]⟩) (3) (8) w).mono ?_
  rintro e w' ⟨rfl, hb⟩
  exact ⟨by kernel_rfl, hb⟩
set_option maxRecDepth 100000 in
set_option maxHeartbeats 4000000 in
theorem ex_w4 (w : World) : Calls Try.prog 23 #[.int .i64 3, .int .i64 4] w fun e w' => e = .returned (.tuple #[.int .i64 18, .int .i64 0]) ∧ Below w.heap.size w w' := by
  refine (Count_any (3) (4) w).mono ?_
  rintro e w' ⟨rfl, hb⟩
  exact ⟨by kernel_rfl, hb⟩
set_option maxRecDepth 100000 in
set_option maxHeartbeats 4000000 in
theorem ex_w5 (g : Nat) (w : World) (hr : RStrs w w.heap.size (some ⟨g, 0, none⟩) 2 [⟨#[97, 98]⟩, ⟨#[98, 97]⟩]) :
    Calls Try.prog 26 #[.agg #[.slice (some ⟨g, 0, none⟩) 2 2], .string ⟨#[97, 98, 97]⟩] w fun e w' => e = .returned (.tuple #[.string ⟨#[97, 98, 98, 97, 97, 98]⟩, .int .i64 0]) ∧ Below w.heap.size w w' := by
  refine (Replace_any _ _ _ _ (⟨#[97, 98, 97]⟩) w _ (Nat.le_refl _) hr).mono ?_
  rintro e w' ⟨rfl, hb⟩
  exact ⟨by kernel_rfl, hb⟩
set_option maxRecDepth 100000 in
set_option maxHeartbeats 4000000 in
theorem ex_w6 (g : Nat) (w : World) (hr : RStrs w w.heap.size (some ⟨g, 0, none⟩) 2 [⟨#[97, 98]⟩, ⟨#[98, 97]⟩]) :
    Calls Try.prog 38 #[.agg #[.slice (some ⟨g, 0, none⟩) 2 2], .string ⟨#[97, 98, 98, 97]⟩] w fun e w' => e = .returned (.tuple #[.string ⟨#[97, 98]⟩, .int .i64 0]) ∧ Below w.heap.size w w' := by
  refine (Back_any _ _ _ _ (⟨#[97, 98, 98, 97]⟩) w _ (Nat.le_refl _) hr).mono ?_
  rintro e w' ⟨rfl, hb⟩
  exact ⟨by kernel_rfl, hb⟩
set_option maxRecDepth 100000 in
set_option maxHeartbeats 4000000 in
theorem ex_w7 (g : Nat) (w : World) (hr : RStrs w w.heap.size (some ⟨g, 0, none⟩) 2 [⟨#[97, 98]⟩, ⟨#[99, 100]⟩]) :
    Calls Try.prog 28 #[.agg #[.slice (some ⟨g, 0, none⟩) 2 2]] w fun e w' => e = .returned (.tuple #[.bool true, .int .i64 0]) ∧ Below w.heap.size w w' := by
  refine (Keeps_any _ _ _ _ w _ (Nat.le_refl _) hr).mono ?_
  rintro e w' ⟨rfl, hb⟩
  exact ⟨by kernel_rfl, hb⟩
set_option maxRecDepth 100000 in
set_option maxHeartbeats 4000000 in
theorem ex_w8 (g : Nat) (w : World) (hr : RStrs w w.heap.size (some ⟨g, 0, none⟩) 3 [⟨#[97, 98]⟩, ⟨#[99, 98]⟩, ⟨#[99, 100]⟩]) :
    Calls Try.prog 28 #[.agg #[.slice (some ⟨g, 0, none⟩) 3 3]] w fun e w' => e = .returned (.tuple #[.bool false, .int .i64 0]) ∧ Below w.heap.size w w' := by
  refine (Keeps_any _ _ _ _ w _ (Nat.le_refl _) hr).mono ?_
  rintro e w' ⟨rfl, hb⟩
  exact ⟨by kernel_rfl, hb⟩
set_option maxRecDepth 100000 in
set_option maxHeartbeats 4000000 in
theorem ex_w9 (g : Nat) (w : World) (hr : RStrs w w.heap.size (some ⟨g, 0, none⟩) 3 [⟨#[97, 98]⟩, ⟨#[99, 98]⟩, ⟨#[99, 100]⟩]) :
    Calls Try.prog 30 #[.agg #[.slice (some ⟨g, 0, none⟩) 3 3]] w fun e w' => e = .returned (.tuple #[.string ⟨#[97, 98, 99]⟩, .int .i64 0]) ∧ Below w.heap.size w w' := by
  refine (Against_any _ _ _ _ w _ (Nat.le_refl _) hr).mono ?_
  rintro e w' ⟨rfl, hb⟩
  exact ⟨by kernel_rfl, hb⟩
set_option maxRecDepth 100000 in
set_option maxHeartbeats 4000000 in
theorem ex_w10 (g : Nat) (w : World) (hr : RStrs w w.heap.size (some ⟨g, 0, none⟩) 2 [⟨#[97, 98]⟩, ⟨#[98, 97]⟩]) :
    Calls Try.prog 36 #[.agg #[.slice (some ⟨g, 0, none⟩) 2 2], .int .i64 8] w fun e w' => e = .returned (.tuple #[.string ⟨#[97, 98, 98, 97, 98, 97, 97, 98]⟩, .int .i64 0]) ∧ Below w.heap.size w w' := by
  refine (Grow_any _ _ _ _ (8) w _ (Nat.le_refl _) hr).mono ?_
  rintro e w' ⟨rfl, hb⟩
  exact ⟨by kernel_rfl, hb⟩
set_option maxRecDepth 100000 in
set_option maxHeartbeats 4000000 in
theorem ex_w11 (w : World) : Calls Try.prog 21 #[.string ⟨#[97, 98]⟩, .int .i64 2, .int .i64 4] w fun e w' => e = .returned (.tuple #[.string ⟨#[]⟩, .int .i64 12]) ∧ Below w.heap.size w w' := by
  refine (Longer_any (⟨#[97, 98]⟩) (2) (4) w).mono ?_
  rintro e w' ⟨rfl, hb⟩
  exact ⟨by kernel_rfl, hb⟩
set_option maxRecDepth 100000 in
set_option maxHeartbeats 4000000 in
theorem ex_w12 (g : Nat) (w : World) (hr : RStrs w w.heap.size (some ⟨g, 0, none⟩) 2 [⟨#[97, 98]⟩, ⟨#[98, 97]⟩]) :
    Calls Try.prog 38 #[.agg #[.slice (some ⟨g, 0, none⟩) 2 2], .string ⟨#[97, 97, 98, 98]⟩] w fun e w' => e = .returned (.tuple #[.string ⟨#[]⟩, .int .i64 12]) ∧ Below w.heap.size w w' := by
  refine (Back_any _ _ _ _ (⟨#[97, 97, 98, 98]⟩) w _ (Nat.le_refl _) hr).mono ?_
  rintro e w' ⟨rfl, hb⟩
  exact ⟨by kernel_rfl, hb⟩
set_option maxRecDepth 100000 in
set_option maxHeartbeats 4000000 in
theorem ex_w13 (g : Nat) (w : World) (hr : RStrs w w.heap.size (some ⟨g, 0, none⟩) 3 [⟨#[97, 98]⟩, ⟨#[99, 98]⟩, ⟨#[99, 100]⟩]) :
    Calls Try.prog 32 #[.agg #[.slice (some ⟨g, 0, none⟩) 3 3], .string ⟨#[97, 98, 99]⟩] w fun e w' => e = .returned (.int .i64 0) ∧ Below w.heap.size w w' := by
  refine (Proves_any _ _ _ _ (⟨#[97, 98, 99]⟩) w _ (Nat.le_refl _) hr).mono ?_
  rintro e w' ⟨rfl, hb⟩
  exact ⟨by kernel_rfl, hb⟩
set_option maxRecDepth 100000 in
set_option maxHeartbeats 4000000 in
theorem ex_w14 (g : Nat) (w : World) (hr : RStrs w w.heap.size (some ⟨g, 0, none⟩) 3 [⟨#[97, 98]⟩, ⟨#[99, 98]⟩, ⟨#[99, 100]⟩]) :
    Calls Try.prog 32 #[.agg #[.slice (some ⟨g, 0, none⟩) 3 3], .string ⟨#[97, 98, 97]⟩] w fun e w' => e = .returned (.int .i64 14) ∧ Below w.heap.size w w' := by
  refine (Proves_any _ _ _ _ (⟨#[97, 98, 97]⟩) w _ (Nat.le_refl _) hr).mono ?_
  rintro e w' ⟨rfl, hb⟩
  exact ⟨by kernel_rfl, hb⟩
end Go.Proofs.Ytdaaiockkbolbaa
