/- The examples of the chapter, one by one. (Printed by genex.py.) -/
import Derived.Test.YtfcfhiekkpflcaaDoorRN
namespace Go.Proofs.YtfcfhiekkpflcaaDoor
open Go.RowKit
set_option maxRecDepth 100000 in
set_option maxHeartbeats 4000000 in
theorem ex_w0 (w : World) : Calls Tryd.prog 14 #[.string ⟨#[99, 99, 110, 99, 110, 110]⟩, .int .i64 0] w fun e w' => ∃ v, e = .returned (.tuple #[v, .int .i64 0]) ∧ RN w' v [1, 2, 1, 2, 1, 0] ∧ Below w.heap.size w w' := by
  refine (Coins_any (⟨#[99, 99, 110, 99, 110, 110]⟩) (0) w).mono ?_
  rintro e w' ⟨v, rfl, ho, hb⟩
  have e1 : coinL (bts ⟨#[99, 99, 110, 99, 110, 110]⟩) 0 = [1, 2, 1, 2, 1, 0] := by kernel_rfl
  have e2 : coinE (bts ⟨#[99, 99, 110, 99, 110, 110]⟩) 0 = 0 := by kernel_rfl
  rw [e1] at ho
  rw [e2]
  exact ⟨v, rfl, ho.rn, hb⟩
set_option maxRecDepth 100000 in
set_option maxHeartbeats 4000000 in
theorem ex_w1 (w : World) : Calls Tryd.prog 16 #[.string ⟨#[99, 110, 110]⟩, .int .i64 0] w fun e w' => e = .returned (.tuple #[.int .i64 2, .int .i64 0]) ∧ Below w.heap.size w w' := by
  refine (Lacks_any (⟨#[99, 110, 110]⟩) (0) w).mono ?_
  rintro e w' ⟨rfl, hb⟩
  exact ⟨by kernel_rfl, hb⟩
set_option maxRecDepth 100000 in
set_option maxHeartbeats 4000000 in
theorem ex_w2 (w : World) : Calls Tryd.prog 18 #[.string ⟨#[110, 110, 99]⟩] w fun e w' => e = .returned (.tuple #[.int .i64 2, .int .i64 0]) ∧ Below w.heap.size w w' := by
  refine (Needs_any (⟨#[110, 110, 99]⟩) w).mono ?_
  rintro e w' ⟨rfl, hb⟩
  exact ⟨by kernel_rfl, hb⟩
set_option maxRecDepth 100000 in
set_option maxHeartbeats 4000000 in
theorem ex_w3 (w : World) : Calls Tryd.prog 23 #[.int .i64 3, .int .i64 3, .int .i64 0] w fun e w' => e = .returned (.tuple #[.int .i64 5, .int .i64 0]) ∧ Below w.heap.size w w' := by
  refine (Count_any (3) (3) (0) w).mono ?_
  rintro e w' ⟨rfl, rfl⟩
  exact ⟨by kernel_rfl, Below.refl _ _⟩
set_option maxRecDepth 100000 in
set_option maxHeartbeats 4000000 in
theorem ex_w4 (w : World) : Calls Tryd.prog 25 #[.int .i64 1, .int .i64 2, .int .i64 1] w fun e w' => e = .returned (.tuple #[.string ⟨#[99, 110, 110]⟩, .int .i64 0]) ∧ Below w.heap.size w w' := by
  refine (First_any (1) (2) (1) w).mono ?_
  rintro e w' ⟨rfl, hb⟩
  exact ⟨by kernel_rfl, hb⟩
set_option maxRecDepth 100000 in
set_option maxHeartbeats 4000000 in
theorem ex_w5 (w : World) : Calls Tryd.prog 27 #[.int .i64 3, .int .i64 3, .int .i64 0, .int .i64 4] w fun e w' => e = .returned (.tuple #[.string ⟨#[99, 110, 99, 110, 99, 110]⟩, .int .i64 0]) ∧ Below w.heap.size w w' := by
  refine (At_any (3) (3) (0) (4) w).mono ?_
  rintro e w' ⟨rfl, hb⟩
  exact ⟨by kernel_rfl, hb⟩
set_option maxRecDepth 100000 in
set_option maxHeartbeats 4000000 in
theorem ex_w6 (w : World) : Calls Tryd.prog 29 #[.string ⟨#[99, 99, 110, 110, 99, 110]⟩, .int .i64 0] w fun e w' => e = .returned (.tuple #[.int .i64 2, .int .i64 0]) ∧ Below w.heap.size w w' := by
  refine (Number_any (⟨#[99, 99, 110, 110, 99, 110]⟩) (0) w).mono ?_
  rintro e w' ⟨rfl, hb⟩
  exact ⟨by kernel_rfl, hb⟩
set_option maxRecDepth 100000 in
set_option maxHeartbeats 4000000 in
theorem ex_w7 (w : World) : Calls Tryd.prog 31 #[.string ⟨#[99, 110, 99, 99, 110]⟩, .int .i64 1] w fun e w' => ∃ v, e = .returned (.tuple #[v, .int .i64 0]) ∧ RN w' v [2] ∧ Below w.heap.size w w' := by
  refine (Turns_any (⟨#[99, 110, 99, 99, 110]⟩) (1) w).mono ?_
  rintro e w' ⟨v, rfl, ho, hb⟩
  have e1 : turnL (bts ⟨#[99, 110, 99, 99, 110]⟩) 1 = [2] := by kernel_rfl
  have e2 : opT (bts ⟨#[99, 110, 99, 99, 110]⟩) 1 = 0 := by kernel_rfl
  rw [e1] at ho
  rw [e2]
  exact ⟨v, rfl, ho.rn, hb⟩
set_option maxRecDepth 100000 in
set_option maxHeartbeats 4000000 in
theorem ex_w8 (w : World) : Calls Tryd.prog 31 #[.string ⟨#[99, 110, 99, 99, 110]⟩, .int .i64 0] w fun e w' => ∃ v, e = .returned (.tuple #[v, .int .i64 0]) ∧ RN w' v [0, 2, 3] ∧ Below w.heap.size w w' := by
  refine (Turns_any (⟨#[99, 110, 99, 99, 110]⟩) (0) w).mono ?_
  rintro e w' ⟨v, rfl, ho, hb⟩
  have e1 : turnL (bts ⟨#[99, 110, 99, 99, 110]⟩) 0 = [0, 2, 3] := by kernel_rfl
  have e2 : opT (bts ⟨#[99, 110, 99, 99, 110]⟩) 0 = 0 := by kernel_rfl
  rw [e1] at ho
  rw [e2]
  exact ⟨v, rfl, ho.rn, hb⟩
set_option maxRecDepth 100000 in
set_option maxHeartbeats 4000000 in
theorem ex_w9 (w : World) : Calls Tryd.prog 33 #[.string ⟨#[99, 99, 110, 99, 110, 110]⟩] w fun e w' => ∃ v, e = .returned (.tuple #[v, .int .i64 0]) ∧ RPN w' v [(1, 2), (3, 4), (0, 5)] ∧ Below w.heap.size w w' := by
  refine (Pairs_any (⟨#[99, 99, 110, 99, 110, 110]⟩) w).mono ?_
  rintro e w' ⟨v, rfl, ho, hb⟩
  have e1 : pairL (bts ⟨#[99, 99, 110, 99, 110, 110]⟩) = [(1, 2), (3, 4), (0, 5)] := by kernel_rfl
  have e2 : pairE (bts ⟨#[99, 99, 110, 99, 110, 110]⟩) = 0 := by kernel_rfl
  rw [e1] at ho
  rw [e2]
  exact ⟨v, rfl, ho.rpn, hb⟩
set_option maxRecDepth 100000 in
set_option maxHeartbeats 4000000 in
theorem ex_w10 (w : World) : Calls Tryd.prog 35 #[.string ⟨#[99, 110, 110, 99]⟩, .int .i64 0] w fun e w' => e = .returned (.tuple #[.string ⟨#[110, 99, 99, 99]⟩, .int .i64 0]) ∧ Below w.heap.size w w' := by
  refine (Exchange_any (⟨#[99, 110, 110, 99]⟩) (0) w).mono ?_
  rintro e w' ⟨rfl, hb⟩
  exact ⟨by kernel_rfl, hb⟩
set_option maxRecDepth 100000 in
set_option maxHeartbeats 4000000 in
theorem ex_w11 (w : World) : Calls Tryd.prog 37 #[.string ⟨#[110, 99, 99, 110]⟩, .int .i64 0] w fun e w' => ∃ v, e = .returned (.tuple #[v, .int .i64 0]) ∧ RN w' v [1, 0, 2, 3] ∧ Below w.heap.size w w' := by
  refine (Served_any (⟨#[110, 99, 99, 110]⟩) (0) w).mono ?_
  rintro e w' ⟨v, rfl, ho, hb⟩
  have e1 : serL (bts ⟨#[110, 99, 99, 110]⟩) 0 = [1, 0, 2, 3] := by kernel_rfl
  have e2 : serE (bts ⟨#[110, 99, 99, 110]⟩) 0 = 0 := by kernel_rfl
  rw [e1] at ho
  rw [e2]
  exact ⟨v, rfl, ho.rn, hb⟩
set_option maxRecDepth 100000 in
set_option maxHeartbeats 4000000 in
theorem ex_w12 (w : World) : Calls Tryd.prog 37 #[.string ⟨#[110, 110]⟩, .int .i64 0] w fun e w' => ∃ v, e = .returned (.tuple #[v, .int .i64 12]) ∧ RN w' v [] ∧ Below w.heap.size w w' := by
  refine (Served_any (⟨#[110, 110]⟩) (0) w).mono ?_
  rintro e w' ⟨v, rfl, ho, hb⟩
  have e1 : serL (bts ⟨#[110, 110]⟩) 0 = [] := by kernel_rfl
  have e2 : serE (bts ⟨#[110, 110]⟩) 0 = 12 := by kernel_rfl
  rw [e1] at ho
  rw [e2]
  exact ⟨v, rfl, ho.rn, hb⟩
set_option maxRecDepth 100000 in
set_option maxHeartbeats 4000000 in
theorem ex_w13 (w : World) : Calls Tryd.prog 29 #[.string ⟨#[99, 110, 110, 99, 110]⟩, .int .i64 0] w fun e w' => e = .returned (.tuple #[.int .i64 0, .int .i64 14]) ∧ Below w.heap.size w w' := by
  refine (Number_any (⟨#[99, 110, 110, 99, 110]⟩) (0) w).mono ?_
  rintro e w' ⟨rfl, hb⟩
  exact ⟨by kernel_rfl, hb⟩
set_option maxRecDepth 100000 in
set_option maxHeartbeats 4000000 in
theorem ex_k0 (w : World) : Calls Tryd.prog 14 #[.string ⟨#[99, 110, 110]⟩, .int .i64 0] w fun e w' => ∃ v, e = .returned (.tuple #[v, .int .i64 14]) ∧ RN w' v [] ∧ Below w.heap.size w w' := by
  refine (Coins_any (⟨#[99, 110, 110]⟩) (0) w).mono ?_
  rintro e w' ⟨v, rfl, ho, hb⟩
  have e1 : coinL (bts ⟨#[99, 110, 110]⟩) 0 = [] := by kernel_rfl
  have e2 : coinE (bts ⟨#[99, 110, 110]⟩) 0 = 14 := by kernel_rfl
  rw [e1] at ho
  rw [e2]
  exact ⟨v, rfl, ho.rn, hb⟩
set_option maxRecDepth 100000 in
set_option maxHeartbeats 4000000 in
theorem ex_k1 (w : World) : Calls Tryd.prog 16 #[.string ⟨#[99, 99, 110]⟩, .int .i64 0] w fun e w' => e = .returned (.tuple #[.int .i64 0, .int .i64 12]) ∧ Below w.heap.size w w' := by
  refine (Lacks_any (⟨#[99, 99, 110]⟩) (0) w).mono ?_
  rintro e w' ⟨rfl, hb⟩
  exact ⟨by kernel_rfl, hb⟩
set_option maxRecDepth 100000 in
set_option maxHeartbeats 4000000 in
theorem ex_k2 (w : World) : Calls Tryd.prog 18 #[.string ⟨#[99, 99]⟩] w fun e w' => e = .returned (.tuple #[.int .i64 0, .int .i64 0]) ∧ Below w.heap.size w w' := by
  refine (Needs_any (⟨#[99, 99]⟩) w).mono ?_
  rintro e w' ⟨rfl, hb⟩
  exact ⟨by kernel_rfl, hb⟩
set_option maxRecDepth 100000 in
set_option maxHeartbeats 4000000 in
theorem ex_k3 (w : World) : Calls Tryd.prog 23 #[.int .i64 2, .int .i64 3, .int .i64 1] w fun e w' => e = .returned (.tuple #[.int .i64 5, .int .i64 0]) ∧ Below w.heap.size w w' := by
  refine (Count_any (2) (3) (1) w).mono ?_
  rintro e w' ⟨rfl, rfl⟩
  exact ⟨by kernel_rfl, Below.refl _ _⟩
set_option maxRecDepth 100000 in
set_option maxHeartbeats 4000000 in
theorem ex_k4 (w : World) : Calls Tryd.prog 23 #[.int .i64 2, .int .i64 4, .int .i64 1] w fun e w' => e = .returned (.tuple #[.int .i64 0, .int .i64 0]) ∧ Below w.heap.size w w' := by
  refine (Count_any (2) (4) (1) w).mono ?_
  rintro e w' ⟨rfl, rfl⟩
  exact ⟨by kernel_rfl, Below.refl _ _⟩
set_option maxRecDepth 100000 in
set_option maxHeartbeats 4000000 in
theorem ex_k5 (w : World) : Calls Tryd.prog 23 #[.int .i64 0, .int .i64 0, .int .i64 0] w fun e w' => e = .returned (.tuple #[.int .i64 1, .int .i64 0]) ∧ Below w.heap.size w w' := by
  refine (Count_any (0) (0) (0) w).mono ?_
  rintro e w' ⟨rfl, rfl⟩
  exact ⟨by kernel_rfl, Below.refl _ _⟩
set_option maxRecDepth 100000 in
set_option maxHeartbeats 4000000 in
theorem ex_k6 (w : World) : Calls Tryd.prog 25 #[.int .i64 1, .int .i64 2, .int .i64 0] w fun e w' => e = .returned (.tuple #[.string ⟨#[]⟩, .int .i64 12]) ∧ Below w.heap.size w w' := by
  refine (First_any (1) (2) (0) w).mono ?_
  rintro e w' ⟨rfl, hb⟩
  exact ⟨by kernel_rfl, hb⟩
set_option maxRecDepth 100000 in
set_option maxHeartbeats 4000000 in
theorem ex_k7 (w : World) : Calls Tryd.prog 27 #[.int .i64 3, .int .i64 3, .int .i64 0, .int .i64 1] w fun e w' => e = .returned (.tuple #[.string ⟨#[99, 99, 110, 99, 110, 110]⟩, .int .i64 0]) ∧ Below w.heap.size w w' := by
  refine (At_any (3) (3) (0) (1) w).mono ?_
  rintro e w' ⟨rfl, hb⟩
  exact ⟨by kernel_rfl, hb⟩
set_option maxRecDepth 100000 in
set_option maxHeartbeats 4000000 in
theorem ex_k8 (w : World) : Calls Tryd.prog 27 #[.int .i64 3, .int .i64 3, .int .i64 0, .int .i64 5] w fun e w' => e = .returned (.tuple #[.string ⟨#[]⟩, .int .i64 1]) ∧ Below w.heap.size w w' := by
  refine (At_any (3) (3) (0) (5) w).mono ?_
  rintro e w' ⟨rfl, hb⟩
  exact ⟨by kernel_rfl, hb⟩
set_option maxRecDepth 100000 in
set_option maxHeartbeats 4000000 in
theorem ex_k9 (w : World) : Calls Tryd.prog 31 #[.string ⟨#[99, 110]⟩, .int .i64 1] w fun e w' => ∃ v, e = .returned (.tuple #[v, .int .i64 0]) ∧ RN w' v [] ∧ Below w.heap.size w w' := by
  refine (Turns_any (⟨#[99, 110]⟩) (1) w).mono ?_
  rintro e w' ⟨v, rfl, ho, hb⟩
  have e1 : turnL (bts ⟨#[99, 110]⟩) 1 = [] := by kernel_rfl
  have e2 : opT (bts ⟨#[99, 110]⟩) 1 = 0 := by kernel_rfl
  rw [e1] at ho
  rw [e2]
  exact ⟨v, rfl, ho.rn, hb⟩
set_option maxRecDepth 100000 in
set_option maxHeartbeats 4000000 in
theorem ex_k10 (w : World) : Calls Tryd.prog 35 #[.string ⟨#[99, 110]⟩, .int .i64 0] w fun e w' => e = .returned (.tuple #[.string ⟨#[]⟩, .int .i64 12]) ∧ Below w.heap.size w w' := by
  refine (Exchange_any (⟨#[99, 110]⟩) (0) w).mono ?_
  rintro e w' ⟨rfl, hb⟩
  exact ⟨by kernel_rfl, hb⟩
set_option maxRecDepth 100000 in
set_option maxHeartbeats 4000000 in
theorem ex_k11 (w : World) : Calls Tryd.prog 37 #[.string ⟨#[110, 110, 99]⟩, .int .i64 1] w fun e w' => ∃ v, e = .returned (.tuple #[v, .int .i64 0]) ∧ RN w' v [0, 2, 1] ∧ Below w.heap.size w w' := by
  refine (Served_any (⟨#[110, 110, 99]⟩) (1) w).mono ?_
  rintro e w' ⟨v, rfl, ho, hb⟩
  have e1 : serL (bts ⟨#[110, 110, 99]⟩) 1 = [0, 2, 1] := by kernel_rfl
  have e2 : serE (bts ⟨#[110, 110, 99]⟩) 1 = 0 := by kernel_rfl
  rw [e1] at ho
  rw [e2]
  exact ⟨v, rfl, ho.rn, hb⟩
set_option maxRecDepth 100000 in
set_option maxHeartbeats 4000000 in
theorem ex_k12 (w : World) : Calls Tryd.prog 21 #[.string ⟨#[99, 110, 120]⟩] w fun e w' => e = .returned (.int .i64 10) ∧ Below w.heap.size w w' := by
  refine (Check_any (⟨#[99, 110, 120]⟩) w).mono ?_
  rintro e w' ⟨rfl, hb⟩
  exact ⟨by kernel_rfl, hb⟩
set_option maxRecDepth 100000 in
set_option maxHeartbeats 4000000 in
theorem ex_k13 (w : World) : Calls Tryd.prog 21 #[.string ⟨#[99, 99, 99, 99, 99, 99, 99, 99, 99, 99, 99, 99, 99, 99, 99, 99, 99]⟩] w fun e w' => e = .returned (.int .i64 3) ∧ Below w.heap.size w w' := by
  refine (Check_any (⟨#[99, 99, 99, 99, 99, 99, 99, 99, 99, 99, 99, 99, 99, 99, 99, 99, 99]⟩) w).mono ?_
  rintro e w' ⟨rfl, hb⟩
  exact ⟨by kernel_rfl, hb⟩
set_option maxRecDepth 100000 in
set_option maxHeartbeats 4000000 in
theorem ex_k14 (w : World) : Calls Tryd.prog 21 #[.string ⟨#[]⟩] w fun e w' => e = .returned (.int .i64 0) ∧ Below w.heap.size w w' := by
  refine (Check_any (⟨#[]⟩) w).mono ?_
  rintro e w' ⟨rfl, hb⟩
  exact ⟨by kernel_rfl, hb⟩
end Go.Proofs.YtfcfhiekkpflcaaDoor
