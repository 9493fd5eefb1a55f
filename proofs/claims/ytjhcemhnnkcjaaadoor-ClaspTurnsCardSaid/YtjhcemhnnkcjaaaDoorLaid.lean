/- The rest of a position, or its error. -/
import Derived.Test.YtjhcemhnnkcjaaaDoorProg
import Derived.Test.YtjhcemhnnkcjaaaDoorPlain
namespace Go.Proofs.YtjhcemhnnkcjaaaDoor
open Go.RowKit
theorem info_rest : (Tryd.prog.info? 68).map (·.size) = some 17 := by kernel_rfl
theorem info_rest' (n : Nat) (xs : List Int) : (Tryd.prog.info? 68).map (·.size) = some (restC n (pad xs)).size := by rw [restC_size, pad_length]; exact info_rest
theorem restC_sizes (n m : Nat) (xs ys : List Int) : (restC n (pad xs)).size = (restC m (pad ys)).size := by simp only [restC_size, pad_length]
theorem restC_cell {xs : List Int} {n k : Nat} (hk : k < 16) : ∃ b, (restC n (pad xs))[1 + k]? = some (.bool b) := by
  rw [restC_at, List.getElem?_eq_getElem (by rw [pad_length]; exact hk)]; exact ⟨_, rfl⟩
set_option maxRecDepth 100000 in
set_option maxHeartbeats 1000000 in
theorem laid_bad (A : Option Addr) (n c : Nat) (xs : List Int) (w : World) (ha : RInts w w.heap.size A n xs) (hn : n ≤ maxLen) (hc : chk xs ≠ 0) :
    Calls Tryd.prog 49 #[.slice A n c] w fun e w' => e = .returned (.tuple #[.agg (restC 0 (pad [])), .int .i64 (chk xs)]) ∧ Below w.heap.size w w' := by
  unfold maxLen at hn
  have hxl := Lib.hid ha.len
  have hC := Lib.hid hc
  clear hc
  by_cases h0 : n = 0
  · subst h0
    have hP := Lib.hid (chk_empty hxl.out)
    go_enter Tryd.func49, Tryd.ntmps49
    go_wp2_with (first
      | (with_reducible show wpList _ _ _ (⟨_, .store 68 (.tmp 4) (.tmp 9), _, _, _, _⟩ :: _) _ _
         refine wpList_store_blk rfl 68 _ _ rfl (w.heap.size + 1) (restC 0 (pad [])) rfl rfl 68 (restC 0 (pad [])) (heap_alloc2_new _ _ _) (info_rest' 0 []) rfl (restC_one _ _) ?_
         intro W1 hB1 hg1
         have hB0 : Blk W1 w.heap.size 68 (restC 0 (pad [])) := Blk.grown (heap_alloc2_old _ _ _) hg1 (by simp)
         have hBe : Below w.heap.size w W1 := (((Below.refl _ _).alloc (Nat.le_refl _) _).alloc (by simp) _).grown hg1 (by simp; omega) (by simp)
         have hc0 : W1.cell? ⟨w.heap.size + 1, 0, none⟩ = some (.int .i64 (0 : Nat)) := by rw [hB1.cell, restC_zero]
         clear hg1)
      | (with_reducible show wpList _ _ _ (⟨_, .store 68 (.tmp 2) _, _, _, _, _⟩ :: _) _ _
         refine wpList_store_blk rfl 68 _ _ rfl w.heap.size (restC 0 (pad [])) rfl rfl 68 (restC 0 (pad [])) (by assumption) (info_rest' 0 []) rfl (restC_one _ _) ?_
         intro W2 hB2 hg2
         have hBe2 : Below w.heap.size w W2 := hBe.grown hg2 hBe.size (by simp)
         clear hg2))
    refine bodyPost_ret (results_cell_tmp rfl _ _ w.heap.size 68 (restC 0 (pad [])) (0, 0) _ rfl hB2 Tryd.underlying68 rfl (info_rest' 0 [])) rfl ⟨by rw [hP.out]; rfl, hBe2⟩
  have hb : ((n : Int) == 0) = false := by simp; omega
  by_cases h1 : 16 < n
  · have hP := Lib.hid (chk_many (by rw [hxl.out]; exact h1))
    go_enter Tryd.func49, Tryd.ntmps49
    go_wp2_with (first
      | (with_reducible show wpList _ _ _ (⟨_, .store 68 (.tmp 4) (.tmp 9), _, _, _, _⟩ :: _) _ _
         refine wpList_store_blk rfl 68 _ _ rfl (w.heap.size + 1) (restC n (pad [])) rfl rfl 68 (restC 0 (pad [])) (heap_alloc2_new _ _ _) (info_rest' n []) rfl (restC_one _ _) ?_
         intro W1 hB1 hg1
         have hB0 : Blk W1 w.heap.size 68 (restC 0 (pad [])) := Blk.grown (heap_alloc2_old _ _ _) hg1 (by simp)
         have hBe : Below w.heap.size w W1 := (((Below.refl _ _).alloc (Nat.le_refl _) _).alloc (by simp) _).grown hg1 (by simp; omega) (by simp)
         have hc0 : W1.cell? ⟨w.heap.size + 1, 0, none⟩ = some (.int .i64 (n : Nat)) := by rw [hB1.cell, restC_zero]
         clear hg1)
      | (with_reducible show wpList _ _ _ (⟨_, .store 68 (.tmp 2) _, _, _, _, _⟩ :: _) _ _
         refine wpList_store_blk rfl 68 _ _ rfl w.heap.size (restC 0 (pad [])) rfl rfl 68 (restC 0 (pad [])) (by assumption) (info_rest' 0 []) rfl (restC_one _ _) ?_
         intro W2 hB2 hg2
         have hBe2 : Below w.heap.size w W2 := hBe.grown hg2 hBe.size (by simp)
         clear hg2))
    refine bodyPost_ret (results_cell_tmp rfl _ _ w.heap.size 68 (restC 0 (pad [])) (0, 0) _ rfl hB2 Tryd.underlying68 rfl (info_rest' 0 [])) rfl ⟨by rw [hP.out]; rfl, hBe2⟩
  go_enter Tryd.func49, Tryd.ntmps49
  go_wp2_with (first
      | (with_reducible show wpList _ _ _ (⟨_, .store 68 (.tmp 4) (.tmp 9), _, _, _, _⟩ :: _) _ _
         refine wpList_store_blk rfl 68 _ _ rfl (w.heap.size + 1) (restC n (pad [])) rfl rfl 68 (restC 0 (pad [])) (heap_alloc2_new _ _ _) (info_rest' n []) rfl (restC_one _ _) ?_
         intro W1 hB1 hg1
         have hB0 : Blk W1 w.heap.size 68 (restC 0 (pad [])) := Blk.grown (heap_alloc2_old _ _ _) hg1 (by simp)
         have hBe : Below w.heap.size w W1 := (((Below.refl _ _).alloc (Nat.le_refl _) _).alloc (by simp) _).grown hg1 (by simp; omega) (by simp)
         have hc0 : W1.cell? ⟨w.heap.size + 1, 0, none⟩ = some (.int .i64 (n : Nat)) := by rw [hB1.cell, restC_zero]
         clear hg1))
  go_loopw [22] (fun i wr => ∃ k : Nat, k ≤ n ∧ i = .int .i64 k ∧ Hid ((xs.take k).all okx = true) ∧ Blk wr w.heap.size 68 (restC 0 (pad [])) ∧ Blk wr (w.heap.size + 1) 68 (restC n (pad (xs.take k))) ∧ Below w.heap.size w wr) (fun i _ => n - (intOf i).toNat)
  case atStart => exact ⟨0, by omega, rfl, rfl, hB0, hB1, hBe⟩
  case round =>
    clear hB0 hB1 hBe hc0
    obtain ⟨k, hk, rfl, hT, hB0, hB1, hBe⟩ := hrel
    by_cases hlt : k < n
    · obtain ⟨ad, x, rfl, _, hx1, hx⟩ := (ha.below hBe).at_ hlt
      obtain ⟨u, hu⟩ := restC_cell (xs := xs.take k) (n := n) (k := k) (by omega)
      have hcell : wr.cell? ⟨w.heap.size + 1, 1 + k, none⟩ = some (.bool u) := by rw [hB1.cell, hu]
      have hfz := hB1.frozen (1 + k)
      have hU := Lib.hid hu
      clear hu
      by_cases ho : okx x = true
      · have hS := Lib.hid (all_step hT.out hx.out ho)
        have hN : Blk (wr.setCell ⟨w.heap.size + 1, 1 + k, none⟩ (.bool (x == 1))) (w.heap.size + 1) 68 (restC n (pad (xs.take (k + 1)))) := by
          have := hB1.set_ (1 + k) (.bool (x == 1)); rwa [restC_set, pad_step (by omega) hx.out] at this
        have hN0 : Blk (wr.setCell ⟨w.heap.size + 1, 1 + k, none⟩ (.bool (x == 1))) w.heap.size 68 (restC 0 (pad [])) := hB0.far (by simp) _
        have hNe : Below w.heap.size w (wr.setCell ⟨w.heap.size + 1, 1 + k, none⟩ (.bool (x == 1))) := hBe.setCell (by simp) _
        by_cases e0 : x = 0
        · subst e0
          clear ho
          go_wp2_with (fail)
          go_roundw
          case rel => exact ⟨k + 1, by omega, by go_num, hS, hN0, hN, hNe⟩
          case measure => simp [intOf]; omega
        · obtain rfl : x = 1 := by simp [okx] at ho; omega
          clear ho
          go_wp2_with (fail)
          go_roundw
          case rel => exact ⟨k + 1, by omega, by go_num, hS, hN0, hN, hNe⟩
          case measure => simp [intOf]; omega
      · have hP := Lib.hid (chk_bad (by rw [hxl.out]; exact h0) (by rw [hxl.out]; exact h1) hx.out (by simpa using ho))
        have b0 : (x == 0) = false := by simp [okx] at ho; simp; omega
        have b1 : (x == 1) = false := by simp [okx] at ho; simp; omega
        clear ho
        go_wp2_with (first
      | (with_reducible show wpList _ _ _ (⟨_, .store 68 (.tmp 2) _, _, _, _, _⟩ :: _) _ _
         refine wpList_store_blk rfl 68 _ _ rfl w.heap.size (restC 0 (pad [])) rfl rfl 68 (restC 0 (pad [])) (by assumption) (info_rest' 0 []) rfl (restC_one _ _) ?_
         intro W2 hB2 hg2
         have hBe2 : Below w.heap.size w W2 := hBe.grown hg2 hBe.size (by simp)
         clear hg2))
        refine bodyPost_ret (results_cell_tmp rfl _ _ w.heap.size 68 (restC 0 (pad [])) (0, 0) _ rfl hB2 Tryd.underlying68 rfl (info_rest' 0 [])) rfl ⟨by rw [hP.out]; rfl, hBe2⟩
    · exact absurd (chk_ok (by rw [hxl.out]; exact h0) (by rw [hxl.out]; exact h1) (all_end hT.out (by rw [hxl.out]; omega))) hC.out

set_option maxRecDepth 100000 in
set_option maxHeartbeats 1000000 in
theorem laid_ok (A : Option Addr) (n c : Nat) (xs : List Int) (w : World) (ha : RInts w w.heap.size A n xs) (hn : n ≤ maxLen) (hc : chk xs = 0) :
    Calls Tryd.prog 49 #[.slice A n c] w fun e w' => e = .returned (.tuple #[.agg (restC n (pad xs)), .int .i64 0]) ∧ Below w.heap.size w w' := by
  unfold maxLen at hn
  have hxl := Lib.hid ha.len
  have hC := Lib.hid hc
  clear hc
  by_cases h0 : n = 0
  · subst h0
    have := chk_empty hxl.out
    rw [hC.out] at this; cases this
  have hb : ((n : Int) == 0) = false := by simp; omega
  by_cases h1 : 16 < n
  · have := chk_many (xs := xs) (by rw [hxl.out]; exact h1)
    rw [hC.out] at this; cases this
  go_enter Tryd.func49, Tryd.ntmps49
  go_wp2_with (first
      | (with_reducible show wpList _ _ _ (⟨_, .store 68 (.tmp 4) (.tmp 9), _, _, _, _⟩ :: _) _ _
         refine wpList_store_blk rfl 68 _ _ rfl (w.heap.size + 1) (restC n (pad [])) rfl rfl 68 (restC 0 (pad [])) (heap_alloc2_new _ _ _) (info_rest' n []) rfl (restC_one _ _) ?_
         intro W1 hB1 hg1
         have hB0 : Blk W1 w.heap.size 68 (restC 0 (pad [])) := Blk.grown (heap_alloc2_old _ _ _) hg1 (by simp)
         have hBe : Below w.heap.size w W1 := (((Below.refl _ _).alloc (Nat.le_refl _) _).alloc (by simp) _).grown hg1 (by simp; omega) (by simp)
         have hc0 : W1.cell? ⟨w.heap.size + 1, 0, none⟩ = some (.int .i64 (n : Nat)) := by rw [hB1.cell, restC_zero]
         clear hg1))
  go_loopw [22] (fun i wr => ∃ k : Nat, k ≤ n ∧ i = .int .i64 k ∧ Blk wr w.heap.size 68 (restC 0 (pad [])) ∧ Blk wr (w.heap.size + 1) 68 (restC n (pad (xs.take k))) ∧ Below w.heap.size w wr) (fun i _ => n - (intOf i).toNat)
  case atStart => exact ⟨0, by omega, rfl, hB0, hB1, hBe⟩
  case round =>
    clear hB0 hB1 hBe hc0
    obtain ⟨k, hk, rfl, hB0, hB1, hBe⟩ := hrel
    by_cases hlt : k < n
    · obtain ⟨ad, x, rfl, _, hx1, hx⟩ := (ha.below hBe).at_ hlt
      obtain ⟨u, hu⟩ := restC_cell (xs := xs.take k) (n := n) (k := k) (by omega)
      have hcell : wr.cell? ⟨w.heap.size + 1, 1 + k, none⟩ = some (.bool u) := by rw [hB1.cell, hu]
      have hfz := hB1.frozen (1 + k)
      have hU := Lib.hid hu
      clear hu
      have ho := okx_of_chk hC.out hx.out
      have hN : Blk (wr.setCell ⟨w.heap.size + 1, 1 + k, none⟩ (.bool (x == 1))) (w.heap.size + 1) 68 (restC n (pad (xs.take (k + 1)))) := by
        have := hB1.set_ (1 + k) (.bool (x == 1)); rwa [restC_set, pad_step (by omega) hx.out] at this
      have hN0 : Blk (wr.setCell ⟨w.heap.size + 1, 1 + k, none⟩ (.bool (x == 1))) w.heap.size 68 (restC 0 (pad [])) := hB0.far (by simp) _
      have hNe : Below w.heap.size w (wr.setCell ⟨w.heap.size + 1, 1 + k, none⟩ (.bool (x == 1))) := hBe.setCell (by simp) _
      by_cases e0 : x = 0
      · subst e0
        clear ho
        go_wp2_with (fail)
        go_roundw
        case rel => exact ⟨k + 1, by omega, by go_num, hN0, hN, hNe⟩
        case measure => simp [intOf]; omega
      · obtain rfl : x = 1 := by simp [okx] at ho; omega
        clear ho
        go_wp2_with (fail)
        go_roundw
        case rel => exact ⟨k + 1, by omega, by go_num, hN0, hN, hNe⟩
        case measure => simp [intOf]; omega
    · have hkn : k = n := by omega
      subst hkn
      rw [pad_end (by rw [hxl.out]; exact Nat.le_refl _)] at hB1
      go_wp2_with (first
        | (with_reducible show wpList _ _ _ (⟨_, .load 68 (.tmp 4), _, _, _, _⟩ :: _) _ _
           refine wpList_load_blk rfl 68 _ rfl (w.heap.size + 1) rfl 68 (restC k (pad xs)) _ hB1 Tryd.underlying68 rfl (info_rest' k xs) ?_)
        | (with_reducible show wpList _ _ _ (⟨_, .store 68 (.tmp 2) _, _, _, _, _⟩ :: _) _ _
           refine wpList_store_blk rfl 68 _ _ rfl w.heap.size (restC k (pad xs)) rfl rfl 68 (restC 0 (pad [])) (by assumption) (info_rest' k xs) (restC_sizes _ _ _ _) (restC_one _ _) ?_
           intro W2 hB2 hg2
           have hBe2 : Below w.heap.size w W2 := hBe.grown hg2 hBe.size (by simp)
           clear hg2))
      refine bodyPost_ret (results_cell_tmp rfl _ _ w.heap.size 68 (restC k (pad xs)) (0, 0) _ rfl hB2 Tryd.underlying68 rfl (info_rest' k xs)) rfl ⟨rfl, hBe2⟩
end Go.Proofs.YtjhcemhnnkcjaaaDoor
