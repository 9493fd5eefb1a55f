/- Move of the program. -/
import Derived.Test.YtjhcemhnnkcjaaaDoorMoves
import Derived.Test.YtjhcemhnnkcjaaaDoorList
namespace Go.Proofs.YtjhcemhnnkcjaaaDoor
open Go.RowKit
def moveE (xs : List Int) (r : Int) : Int := if chk xs = 0 then stepE xs r else chk xs
def moveL (xs : List Int) (r : Int) : List Int := if moveE xs r = 0 then moveS xs r.toNat else []
theorem stepE_zero {xs : List Int} {r : Int} (h : stepE xs r = 0) : 0 ≤ r ∧ r < xs.length ∧ canS xs r.toNat = true := by
  unfold stepE at h
  split at h
  · cases h
  · rename_i h0
    split at h
    · rename_i h1
      exact ⟨by omega, by omega, h1⟩
    · cases h
set_option maxRecDepth 100000 in
set_option maxHeartbeats 1000000 in
theorem Move_any (A : Option Addr) (n c : Nat) (xs : List Int) (r : Int) (w : World) (ha : RInts w w.heap.size A n xs) (hn : n ≤ maxLen) :
    Calls Tryd.prog 44 #[.slice A n c, .int .i64 r] w (RetL (moveL xs r) (moveE xs r) w) := by
  by_cases hx : chk xs = 0
  · have hX := Lib.hid hx
    have hb0 : (chk xs == 0) = true := by simpa using hx
    have hz := chk_zero hx
    have hbin := Lib.hid (bin_of_all hz.2.2)
    rw [ha.len] at hz
    have hL := Lib.hid ha.len
    have hn16 := hz.2.1
    have hn0 := hz.1
    have hE : moveE xs r = stepE xs r := by rw [moveE, if_pos hx]
    by_cases hs : stepE xs r = 0
    · obtain ⟨h0, h1, hcan⟩ := stepE_zero hs
      obtain ⟨k, rfl⟩ : ∃ k : Nat, r = k := ⟨r.toNat, by omega⟩
      have hk : k < n := by rw [hL.out] at h1; omega
      have hM : moveL xs k = moveS xs k := by rw [moveL, hE, if_pos hs]; rfl
      rw [hM, hE, hs]
      have hC := Lib.hid hcan
      have hsE := Lib.hid hs
      clear hx hz hE h0 h1 hcan hs hM
      go_enter Tryd.func44, Tryd.ntmps44
      go_wp2_with (first
        | (go_at_call 49
           refine (laid_ok A n c xs w ha hn hX.out).mono ?_
           rintro e w1 ⟨rfl, hb1⟩)
        | (with_reducible show wpList _ _ _ (⟨_, .alloc 68, _, _, _, _⟩ :: _) _ _
           refine wpList_alloc_blk rfl 68 rfl _ zero_rest ?_
           intro w2 g hB hg2 hs2
           have hb2 := below_none hb1 hg2 hb1.size)
        | (with_reducible show wpList _ _ _ (⟨_, .store 68 _ (.tmp 11), _, _, _, _⟩ :: _) _ _
           refine wpList_store_blk rfl 68 _ _ rfl g (restC n (pad xs)) rfl rfl 68 (restC 0 (pad [])) hB (info_rest' _ _) (restC_sizes _ _ _ _) (restC_one _ _) ?_
           intro w3 hB3 hg3
           have hgg : w.heap.size ≤ g := by have := hb1.size; omega
           have hb3 := below_some hb2 hg3 hb2.size hgg)
        | (with_reducible show wpList _ _ _ (⟨some 16, .load 68 _, _, _, _, _⟩ :: _) _ _
           refine wpList_load_blk rfl 68 _ rfl g rfl 68 _ _ hB3 Tryd.underlying68 rfl (info_rest' _ _) ?_)
        | (go_at_call 62
           refine (moved_ok n k xs hL.out hbin.out hn16 hk hC.out _).mono ?_
           rintro e w4 ⟨rfl, hb4⟩
           have hB4 := hB3.callee hb4
           have hbe4 := hb3.trans (hb4.mono hb3.size))
        | (with_reducible show wpList _ _ _ (⟨_, .store 68 _ (.tmp 19), _, _, _, _⟩ :: _) _ _
           refine wpList_store_blk rfl 68 _ _ rfl g (restC n (pad (moveS xs k))) rfl rfl 68 (restC n (pad xs)) hB4 (info_rest' _ _) (restC_sizes _ _ _ _) (restC_one _ _) ?_
           intro w5 hB5 hg5
           have hb5 := below_some hbe4 hg5 hbe4.size hgg)
        | (with_reducible show wpList _ _ _ (⟨some 24, .load 68 _, _, _, _, _⟩ :: _) _ _
           refine wpList_load_blk rfl 68 _ rfl g rfl 68 _ _ hB5 Tryd.underlying68 rfl (info_rest' _ _) ?_)
        | (go_at_call 53
           refine (list_any n (moveS xs k) (by rw [moveS_length, hL.out]) (moveS_bin hbin.out k) hn16 hn0 _).mono ?_
           rintro e w6 ⟨g6, rfl, hr6, hb6⟩))
      go_ret2
      exact ⟨_, _, _, rfl, hr6, by omega, hb5.trans (hb6.mono hb5.size)⟩
    · have hM : moveL xs r = [] := by rw [moveL, hE, if_neg hs]
      have hsE := Lib.hid hs
      have hsb : (stepE xs r != 0) = true := by simpa using hs
      rw [hM, hE]
      clear hx hz hE hs hM
      go_enter Tryd.func44, Tryd.ntmps44
      go_wp2_with (first
        | (go_at_call 49
           refine (laid_ok A n c xs w ha hn hX.out).mono ?_
           rintro e w1 ⟨rfl, hb1⟩)
        | (with_reducible show wpList _ _ _ (⟨_, .alloc 68, _, _, _, _⟩ :: _) _ _
           refine wpList_alloc_blk rfl 68 rfl _ zero_rest ?_
           intro w2 g hB hg2 hs2
           have hb2 := below_none hb1 hg2 hb1.size)
        | (with_reducible show wpList _ _ _ (⟨_, .store 68 _ (.tmp 11), _, _, _, _⟩ :: _) _ _
           refine wpList_store_blk rfl 68 _ _ rfl g (restC n (pad xs)) rfl rfl 68 (restC 0 (pad [])) hB (info_rest' _ _) (restC_sizes _ _ _ _) (restC_one _ _) ?_
           intro w3 hB3 hg3
           have hgg : w.heap.size ≤ g := by have := hb1.size; omega
           have hb3 := below_some hb2 hg3 hb2.size hgg)
        | (with_reducible show wpList _ _ _ (⟨some 16, .load 68 _, _, _, _, _⟩ :: _) _ _
           refine wpList_load_blk rfl 68 _ rfl g rfl 68 _ _ hB3 Tryd.underlying68 rfl (info_rest' _ _) ?_)
        | (go_at_call 62
           refine (moved_bad n r xs hL.out hn16 hsE.out _).mono ?_
           rintro e w4 ⟨rfl, hb4⟩
           have hB4 := hB3.callee hb4
           have hbe4 := hb3.trans (hb4.mono hb3.size))
        | (with_reducible show wpList _ _ _ (⟨_, .store 68 _ (.tmp 19), _, _, _, _⟩ :: _) _ _
           refine wpList_store_blk rfl 68 _ _ rfl g (restC 0 (pad [])) rfl rfl 68 (restC n (pad xs)) hB4 (info_rest' _ _) (restC_sizes _ _ _ _) (restC_one _ _) ?_
           intro w5 hB5 hg5
           have hb5 := below_some hbe4 hg5 hbe4.size hgg))
      go_ret2
      exact RetL_nil hb5
  · have hX := Lib.hid hx
    have hb0 : (chk xs == 0) = false := by simpa using hx
    have hb1' : (chk xs != 0) = true := by simpa using hx
    have hE : moveE xs r = chk xs := by rw [moveE, if_neg hx]
    have hM : moveL xs r = [] := by rw [moveL, hE, if_neg hx]
    rw [hM, hE]
    clear hx hM hE
    go_enter Tryd.func44, Tryd.ntmps44
    go_wp2_with (first
      | (go_at_call 49
         refine (laid_bad A n c xs w ha hn hX.out).mono ?_
         rintro e w1 ⟨rfl, hb1⟩)
      | (with_reducible show wpList _ _ _ (⟨_, .alloc 68, _, _, _, _⟩ :: _) _ _
         refine wpList_alloc_blk rfl 68 rfl _ zero_rest ?_
         intro w2 g hB hg2 hs2
         have hb2 := below_none hb1 hg2 hb1.size)
      | (with_reducible show wpList _ _ _ (⟨_, .store 68 _ _, _, _, _, _⟩ :: _) _ _
         refine wpList_store_blk rfl 68 _ _ rfl g (restC 0 (pad [])) rfl rfl 68 (restC 0 (pad [])) hB (info_rest' _ _) (restC_sizes _ _ _ _) (restC_one _ _) ?_
         intro w3 hB3 hg3
         have hgg : w.heap.size ≤ g := by have := hb1.size; omega
         have hb3 := below_some hb2 hg3 hb2.size hgg))
    go_ret2
    exact RetL_nil hb3
end Go.Proofs.YtjhcemhnnkcjaaaDoor
