/- Farthest of the program. -/
import Derived.Test.YtjhcemhnnkcjaaaDoorApi2
import Derived.Test.YtjhcemhnnkcjaaaDoorRestAt
import Derived.Deep.RegionHeld3
namespace Go.Proofs.YtjhcemhnnkcjaaaDoor
open Go.RowKit
/-- a list, a number and an error that a call hands back -/
def RetLI (ys : List Int) (y : Int) (er : Int) (w : World) (e : Ending) (w' : World) : Prop :=
  ∃ A n c, e = .returned (.tuple #[.slice A n c, .int .i64 y, .int .i64 er]) ∧ RInts w' w'.heap.size A n ys ∧ n ≤ 65536 ∧ Below w.heap.size w w'
def farL (xs : List Int) : List Int := if chk xs = 0 then (if 2 ^ xs.length - 1 - numS xs < numS xs then grayS xs.length 0 else grayS xs.length (2 ^ xs.length - 1)) else []
def farN (xs : List Int) : Nat := if chk xs = 0 then (if 2 ^ xs.length - 1 - numS xs < numS xs then numS xs else 2 ^ xs.length - 1 - numS xs) else 0
abbrev farS (w : World) (g5 n : Nat) (xs : List Int) (w' : World) : Prop :=
  aggAt 68 17 w' g5 = some (restC n (pad xs)) ∧ w'.cell? ⟨g5, 0, none⟩ = some (.int .i64 (n : Int)) ∧ Blk w' g5 68 (restC n (pad xs)) ∧ Below w.heap.size w w'
theorem farS_of {w w' : World} {g5 n : Nat} {xs : List Int} (h5 : Blk w' g5 68 (restC n (pad xs))) (hb : Below w.heap.size w w') : farS w g5 n xs w' := ⟨restAt_of h5, by rw [h5.cell, restC_zero], h5, hb⟩
theorem farS_keep {w w0 w' : World} {g5 n : Nat} {xs : List Int} (h : farS w g5 n xs w0) (hb : Below w0.heap.size w0 w') : farS w g5 n xs w' := by
  obtain ⟨_, _, h5, hB⟩ := h
  exact farS_of (h5.callee hb) (hB.trans (hb.mono hB.size))
theorem numbered_zero (r : Nat) (hr : r ≤ 16) (w : World) : Calls Tryd.prog 52 #[.int .i64 r, .int .i64 0] w fun e w' => e = .returned (.agg (restC r (pad (grayS r 0)))) ∧ Below w.heap.size w w' := numbered_any r 0 hr (by omega) w
section
attribute [local go_sem ↓] execOp_load_rest
attribute [local go_sem] run_load_rest
set_option maxRecDepth 100000 in
set_option maxHeartbeats 400000 in
theorem Far_ok (A : Option Addr) (n c : Nat) (xs : List Int) (w : World) (ha : RInts w w.heap.size A n xs) (hn : n ≤ maxLen) (hx : chk xs = 0) :
    Calls Tryd.prog 20 #[.slice A n c] w (RetLI (if 2 ^ n - 1 - numS xs < numS xs then grayS n 0 else grayS n (2 ^ n - 1)) (if 2 ^ n - 1 - numS xs < numS xs then numS xs else 2 ^ n - 1 - numS xs : Nat) 0 w) := by
  have hz := chk_zero hx
  rw [ha.len] at hz
  have hX := Lib.hid hx
  have hL := Lib.hid ha.len
  have hn16 := hz.2.1
  have hn0 := hz.1
  have h16 := pow16 hn16
  have hlt := numS_lt xs
  rw [hL.out] at hlt
  have hw0 : wrap64 (2 ^ n) = ((2 ^ n : Nat) : Int) := wrap64_pow (by omega)
  have hw0' : IntKind.i64.wrap (2 ^ n) = ((2 ^ n : Nat) : Int) := by rw [IntKind.wrap_i64]; have := wrap64_pow (k := n) (by omega); rw [← this, wrap64]
  obtain ⟨T, hT⟩ : ∃ T, T = 2 ^ n - 1 := ⟨_, rfl⟩
  have hT1 : T < 65536 := by omega
  have hNT : numS xs ≤ T := by omega
  have hpc : (2 : Int) ^ n = ((2 ^ n : Nat) : Int) := by push_cast; rfl
  have hw1 : IntKind.i64.wrap ((2 : Int) ^ n - 1) = (T : Int) := by rw [hpc, IntWalk.i64_in _ (by omega)]; omega
  have hw2 : (2 : Int) ^ n - 1 = (T : Int) := by rw [hpc]; omega
  rw [← hT]
  have HT := Lib.hid hT
  obtain ⟨N, hN⟩ : ∃ N, N = numS xs := ⟨_, rfl⟩
  rw [← hN] at hNT ⊢
  have HN := Lib.hid hN
  clear hx hz hT hN hlt h16 hpc
  by_cases hc : T - N < N
  · rw [if_pos hc, if_pos hc]
    go_enter Tryd.func20, Tryd.ntmps20
    go_wp2_with (first
      | (go_at_call 49
         refine (laid_ok A n c xs w ha hn hX.out).mono ?_
         rintro e w1 ⟨rfl, hb1⟩)
      | (with_reducible show wpList _ _ _ (⟨_, .alloc 68, _, _, _, _⟩ :: _) _ _
         refine wpList_alloc_blk rfl 68 rfl _ zero_rest ?_
         intro w2 g hB hg2 hs2
         have hb2 := below_none hb1 hg2 hb1.size)
      | (with_reducible show wpList _ _ _ (⟨_, .store 68 _ _, _, _, _, _⟩ :: _) _ _
         refine wpList_store_blk rfl 68 _ _ rfl g (restC n (pad xs)) rfl rfl 68 (restC 0 (pad [])) hB (info_rest' _ _) (restC_sizes _ _ _ _) (restC_one _ _) ?_
         intro w3 hB3 hg3
         have hgg : w.heap.size ≤ g := by have := hb1.size; omega
         have hb3 := below_some hb2 hg3 hb2.size hgg))
    go_region_held3 (fun w' => aggAt 68 17 w' g = some (restC n (pad xs)) ∧ w'.cell? ⟨g, 0, none⟩ = some (.int .i64 (n : Int)) ∧ Blk w' g 68 (restC n (pad xs)) ∧ Below w.heap.size w w')
      (first | assumption | exact farS_of hB3 hb3.drew)
      (first | (go_at_call 50; refine (number_pad n xs hX.out _).mono ?_; rintro e w8 ⟨rfl, hb8⟩; have hS8 := farS_keep (by assumption) hb8; rw [← HN.out]))
    obtain ⟨_, hc8, hB8, hbe8⟩ := hS8
    clear hB hB3 hb1 hb2 hb3 hg2 hg3 hb8
    go_wp2_with (first
      | (go_at_call 52; refine (numbered_zero n hn16 _).mono ?_; rintro e w9 ⟨rfl, hb9⟩)
      | (go_at_call 53; refine (list_any n (grayS n 0) (grayS_length _ _) (grayS_bin _ _) hn16 hn0 _).mono ?_; rintro e w10 ⟨gl, rfl, hr10, hb10⟩))
    go_ret3
    have hbb := hbe8.trans (hb9.mono hbe8.size)
    exact ⟨_, _, _, rfl, hr10, by omega, hbb.trans (hb10.mono hbb.size)⟩
  · rw [if_neg hc, if_neg hc]
    go_enter Tryd.func20, Tryd.ntmps20
    go_wp2_with (first
      | (go_at_call 49
         refine (laid_ok A n c xs w ha hn hX.out).mono ?_
         rintro e w1 ⟨rfl, hb1⟩)
      | (with_reducible show wpList _ _ _ (⟨_, .alloc 68, _, _, _, _⟩ :: _) _ _
         refine wpList_alloc_blk rfl 68 rfl _ zero_rest ?_
         intro w2 g hB hg2 hs2
         have hb2 := below_none hb1 hg2 hb1.size)
      | (with_reducible show wpList _ _ _ (⟨_, .store 68 _ _, _, _, _, _⟩ :: _) _ _
         refine wpList_store_blk rfl 68 _ _ rfl g (restC n (pad xs)) rfl rfl 68 (restC 0 (pad [])) hB (info_rest' _ _) (restC_sizes _ _ _ _) (restC_one _ _) ?_
         intro w3 hB3 hg3
         have hgg : w.heap.size ≤ g := by have := hb1.size; omega
         have hb3 := below_some hb2 hg3 hb2.size hgg))
    go_region_held3 (fun w' => aggAt 68 17 w' g = some (restC n (pad xs)) ∧ w'.cell? ⟨g, 0, none⟩ = some (.int .i64 (n : Int)) ∧ Blk w' g 68 (restC n (pad xs)) ∧ Below w.heap.size w w')
      (first | assumption | exact farS_of hB3 hb3.drew)
      (first | (go_at_call 50; refine (number_pad n xs hX.out _).mono ?_; rintro e w8 ⟨rfl, hb8⟩; have hS8 := farS_keep (by assumption) hb8; rw [← HN.out]))
    obtain ⟨_, hc8, hB8, hbe8⟩ := hS8
    clear hB hB3 hb1 hb2 hb3 hg2 hg3 hb8
    go_wp2_with (first
      | (go_at_call 52; refine (numbered_any n T hn16 hT1 _).mono ?_; rintro e w9 ⟨rfl, hb9⟩)
      | (go_at_call 53; refine (list_any n (grayS n T) (grayS_length _ _) (grayS_bin _ _) hn16 hn0 _).mono ?_; rintro e w10 ⟨gl, rfl, hr10, hb10⟩))
    go_ret3
    have hbb := hbe8.trans (hb9.mono hbe8.size)
    have hsub : ((T : Int) - (N : Int)) = ((T - N : Nat) : Int) := by omega
    exact ⟨_, _, _, by rw [← hsub]; rfl, hr10, by omega, hbb.trans (hb10.mono hbb.size)⟩
end
theorem RetLI_nil {w w' : World} {er : Int} (hb : Below w.heap.size w w') : RetLI [] 0 er w (.returned (.tuple #[.slice none 0 0, .int .i64 0, .int .i64 er])) w' := ⟨none, 0, 0, rfl, RInts.none_, by omega, hb⟩
set_option maxHeartbeats 400000 in
theorem Far_any (A : Option Addr) (n c : Nat) (xs : List Int) (w : World) (ha : RInts w w.heap.size A n xs) (hn : n ≤ maxLen) :
    Calls Tryd.prog 20 #[.slice A n c] w (RetLI (farL xs) (farN xs) (chk xs) w) := by
  by_cases hx : chk xs = 0
  · rw [farL, farN, hx, if_pos rfl, if_pos rfl, ha.len]
    exact Far_ok A n c xs w ha hn hx
  · have hL : farL xs = [] := by rw [farL, if_neg hx]
    have hN : farN xs = 0 := by rw [farN, if_neg hx]
    rw [hL, hN]
    have hX := Lib.hid hx
    have hb0 : (chk xs != 0) = true := by simpa using hx
    clear hx hL hN
    go_enter Tryd.func20, Tryd.ntmps20
    go_wp2_with (first
      | (go_at_call 49
         refine (laid_bad A n c xs w ha hn hX.out).mono ?_
         rintro e w1 ⟨rfl, hb1⟩)
      | (with_reducible show wpList _ _ _ (⟨_, .alloc 68, _, _, _, _⟩ :: _) _ _
         refine wpList_alloc_blk rfl 68 rfl _ zero_rest ?_
         intro w2 g hB hg2 hs2
         have hb2 := below_none hb1 hg2 hb1.size)
      | (with_reducible show wpList _ _ _ (⟨_, .store 68 _ _, _, _, _, _⟩ :: _) _ _
         refine wpList_store_blk rfl 68 _ _ rfl g (restC 0 (pad [])) rfl rfl 68 (restC 0 (pad [])) hB (info_rest' _ _) (restC_sizes _ _ _ _) (restC_one _ _) ?_
         intro w3 hB3 hg3
         have hb3 := below_some hb2 hg3 hb2.size (by have := hb1.size; omega)))
    go_ret3
    exact RetLI_nil hb3
end Go.Proofs.YtjhcemhnnkcjaaaDoor
