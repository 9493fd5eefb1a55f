/- A rest after a ring was moved, or the error. -/
import Derived.Test.YtjhcemhnnkcjaaaDoorProg
import Derived.Test.YtjhcemhnnkcjaaaDoorDoes
namespace Go.Proofs.YtjhcemhnnkcjaaaDoor
open Go.RowKit
/-- the error of a move -/
def stepE (xs : List Int) (r : Int) : Int := if r < 0 ∨ (xs.length : Int) ≤ r then 2 else if canS xs r.toNat then 0 else 20
theorem pad_set {xs : List Int} {k : Nat} (hk : k < xs.length) (h16 : xs.length ≤ 16) (y : Int) : (pad xs).set k (y == 1) = pad (xs.set k y) := by
  apply List.ext_getElem?
  intro j
  rw [List.getElem?_set]
  simp only [pad, List.length_map, List.length_range, List.getElem?_map]
  by_cases hj : k = j
  · subst hj
    rw [if_pos rfl, if_pos (by omega), List.getElem?_range (by omega)]
    simp [hk]
  · rw [if_neg hj]
    by_cases h : j < 16
    · simp only [List.getElem?_range h, Option.map_some, List.getElem?_set, if_neg hj]
    · simp [h]
theorem stepE_neg {xs : List Int} {r : Int} (h : r < 0) : stepE xs r = 2 := by rw [stepE, if_pos (Or.inl h)]
theorem stepE_big {xs : List Int} {r : Int} (h : (xs.length : Int) ≤ r) : stepE xs r = 2 := by rw [stepE, if_pos (Or.inr h)]
theorem stepE_in {xs : List Int} {k : Nat} (h : k < xs.length) : stepE xs (k : Int) = if canS xs k then 0 else 20 := by
  rw [stepE, if_neg (by omega)]; rfl
set_option maxRecDepth 100000 in
set_option maxHeartbeats 1000000 in
theorem moved_bad (n : Nat) (r : Int) (xs : List Int) (hl : xs.length = n) (hn : n ≤ 16) (he : stepE xs r ≠ 0) (w : World) :
    Calls Tryd.prog 62 #[.agg (restC n (pad xs)), .int .i64 r] w fun e w' => e = .returned (.tuple #[.agg (restC 0 (pad [])), .int .i64 (stepE xs r)]) ∧ Below w.heap.size w w' := by
  have hL := Lib.hid hl
  have hE0 := Lib.hid he
  clear he hl
  have h0 := restC_zero n (pad xs)
  by_cases hr0 : r < 0
  · have hE := Lib.hid (stepE_neg (xs := xs) hr0)
    go_enter Tryd.func62, Tryd.ntmps62
    go_wp2_with (first
      | (with_reducible show wpList _ _ _ (⟨_, .store 68 (.tmp 4) _, _, _, _, _⟩ :: _) _ _
         refine wpList_store_blk rfl 68 _ _ rfl (w.heap.size + 1) (restC 0 (pad [])) rfl rfl 68 (restC 0 (pad [])) (heap_alloc2_new _ _ _) (info_rest' 0 []) rfl (restC_one _ _) ?_
         intro W2 hB2 hg2
         have hBe2 : Below w.heap.size w W2 := (((Below.refl _ _).alloc (Nat.le_refl _) _).alloc (by simp) _).grown hg2 (by simp; omega) (by simp)
         clear hg2))
    refine bodyPost_ret (results_cell_tmp rfl _ _ (w.heap.size + 1) 68 (restC 0 (pad [])) (0, 0) _ rfl hB2 Tryd.underlying68 rfl (info_rest' 0 [])) rfl ⟨by rw [hE.out]; rfl, hBe2⟩
  by_cases hr1 : (n : Int) ≤ r
  · have hE := Lib.hid (stepE_big (xs := xs) (r := r) (by rw [hL.out]; exact hr1))
    go_enter Tryd.func62, Tryd.ntmps62
    go_wp2_with (first
      | (with_reducible show wpList _ _ _ (⟨_, .store 68 (.tmp 4) _, _, _, _, _⟩ :: _) _ _
         refine wpList_store_blk rfl 68 _ _ rfl (w.heap.size + 1) (restC 0 (pad [])) rfl rfl 68 (restC 0 (pad [])) (heap_alloc2_new _ _ _) (info_rest' 0 []) rfl (restC_one _ _) ?_
         intro W2 hB2 hg2
         have hBe2 : Below w.heap.size w W2 := (((Below.refl _ _).alloc (Nat.le_refl _) _).alloc (by simp) _).grown hg2 (by simp; omega) (by simp)
         clear hg2))
    refine bodyPost_ret (results_cell_tmp rfl _ _ (w.heap.size + 1) 68 (restC 0 (pad [])) (0, 0) _ rfl hB2 Tryd.underlying68 rfl (info_rest' 0 [])) rfl ⟨by rw [hE.out]; rfl, hBe2⟩
  obtain ⟨k, rfl⟩ : ∃ k : Nat, r = k := ⟨r.toNat, by omega⟩
  have hk : k < n := by omega
  have hEk := stepE_in (xs := xs) (k := k) (by rw [hL.out]; exact hk)
  cases hc : canS xs k with
  | true => rw [hc] at hEk; exact absurd hEk hE0.out
  | false =>
    rw [hc] at hEk
    have hE := Lib.hid (show stepE xs (k : Int) = 20 from hEk)
    have hD := Lib.hid (show doesS xs k = 0 by simp [doesS, hc])
    clear hEk hc hr0 hr1
    go_enter Tryd.func62, Tryd.ntmps62
    go_wp2_with (first
      | (with_reducible show wpList _ _ _ (⟨some 16, .load 68 (.tmp 2), _, _, _, _⟩ :: _) _ _
         refine wpList_load_blk rfl 68 _ rfl w.heap.size rfl 68 (restC n (pad xs)) _ (heap_alloc2_old _ _ _) Tryd.underlying68 rfl (info_rest' n xs) ?_)
      | (go_at_call 70
         refine (does_any n k xs hL.out hn (by assumption) _).mono ?_
         rintro e w1 ⟨rfl, hb1⟩
         rw [hD.out]
         have hB0 : Blk w1 w.heap.size 68 (restC n (pad xs)) := Blk.below (heap_alloc2_old _ _ _) hb1 (by simp <;> omega)
         have hB1 : Blk w1 (w.heap.size + 1) 68 (restC 0 (pad [])) := Blk.below (heap_alloc2_new _ _ _) hb1 (by simp <;> omega)
         have hBe : Below w.heap.size w w1 := (((Below.refl _ _).alloc (Nat.le_refl _) _).alloc (by simp) _).trans (hb1.mono (by simp <;> omega)))
      | (with_reducible show wpList _ _ _ (⟨_, .store 68 (.tmp 4) _, _, _, _, _⟩ :: _) _ _
         refine wpList_store_blk rfl 68 _ _ rfl (w.heap.size + 1) (restC 0 (pad [])) rfl rfl 68 (restC 0 (pad [])) hB1 (info_rest' 0 []) rfl (restC_one _ _) ?_
         intro W2 hB2 hg2
         have hBe2 : Below w.heap.size w W2 := hBe.grown hg2 hBe.size (by simp)
         clear hg2))
    refine bodyPost_ret (results_cell_tmp rfl _ _ (w.heap.size + 1) 68 (restC 0 (pad [])) (0, 0) _ rfl hB2 Tryd.underlying68 rfl (info_rest' 0 [])) rfl ⟨by rw [hE.out]; rfl, hBe2⟩
set_option maxRecDepth 100000 in
set_option maxHeartbeats 1000000 in
theorem moved_ok (n k : Nat) (xs : List Int) (hl : xs.length = n) (hb : bin xs) (hn : n ≤ 16) (hk : k < n) (hc : canS xs k = true) (w : World) :
    Calls Tryd.prog 62 #[.agg (restC n (pad xs)), .int .i64 k] w fun e w' => e = .returned (.tuple #[.agg (restC n (pad (moveS xs k))), .int .i64 0]) ∧ Below w.heap.size w w' := by
  have hL := Lib.hid hl
  clear hl
  have h0 := restC_zero n (pad xs)
  obtain ⟨x, hx⟩ : ∃ x, xs[k]? = some x := ⟨xs[k]'(by rw [hL.out]; exact hk), List.getElem?_eq_getElem _⟩
  have hX := Lib.hid hx
  obtain ⟨u, hu⟩ := restC_cell (xs := xs) (n := n) (k := k) (by omega)
  have hU := Lib.hid hu
  have hx01 := hb x (List.mem_of_getElem? hx)
  have hM : moveS xs k = xs.set k (1 - x) := by rw [moveS, hx]; rfl
  have hPM : (restC n (pad xs)).setIfInBounds (1 + k) (.bool ((1 - x) == 1)) = restC n (pad (moveS xs k)) := by
    rw [restC_set, pad_set (by rw [hL.out]; exact hk) (by rw [hL.out]; exact hn), hM]
  have hP := Lib.hid hPM
  clear hM hPM hx hu hb
  have hCC := Lib.hid hc
  clear hc
  rcases hx01 with rfl | rfl
  · have hD := Lib.hid (show doesS xs k = 1 by simp [doesS, hCC.out, hX.out])
    have hP1 : Hid ((restC n (pad xs)).setIfInBounds (1 + k) (.bool true) = restC n (pad (moveS xs k))) := hP.out
    go_enter Tryd.func62, Tryd.ntmps62
    go_wp2_with (first
      | (with_reducible show wpList _ _ _ (⟨some 16, .load 68 (.tmp 2), _, _, _, _⟩ :: _) _ _
         refine wpList_load_blk rfl 68 _ rfl w.heap.size rfl 68 (restC n (pad xs)) _ (heap_alloc2_old _ _ _) Tryd.underlying68 rfl (info_rest' n xs) ?_)
      | (go_at_call 70
         refine (does_any n k xs hL.out hn (by assumption) _).mono ?_
         rintro e w1 ⟨rfl, hb1⟩
         rw [hD.out]
         have hB0 : Blk w1 w.heap.size 68 (restC n (pad xs)) := Blk.below (heap_alloc2_old _ _ _) hb1 (by simp <;> omega)
         have hB1 : Blk w1 (w.heap.size + 1) 68 (restC 0 (pad [])) := Blk.below (heap_alloc2_new _ _ _) hb1 (by simp <;> omega)
         have hBe : Below w.heap.size w w1 := (((Below.refl _ _).alloc (Nat.le_refl _) _).alloc (by simp) _).trans (hb1.mono (by simp <;> omega))
         have hcell : w1.cell? ⟨w.heap.size, 1 + k, none⟩ = some (.bool u) := by rw [hB0.cell, hU.out]
         have hfz := hB0.frozen (1 + k)
         have hN : Blk (w1.setCell ⟨w.heap.size, 1 + k, none⟩ (.bool true)) w.heap.size 68 (restC n (pad (moveS xs k))) := by
           have := hB0.set_ (1 + k) (.bool true); rwa [hP1.out] at this
         have hN1 : Blk (w1.setCell ⟨w.heap.size, 1 + k, none⟩ (.bool true)) (w.heap.size + 1) 68 (restC 0 (pad [])) := hB1.far (by simp) _
         have hNe : Below w.heap.size w (w1.setCell ⟨w.heap.size, 1 + k, none⟩ (.bool true)) := hBe.setCell (by simp) _)
      | (with_reducible show wpList _ _ _ (⟨some 27, .load 68 (.tmp 2), _, _, _, _⟩ :: _) _ _
         refine wpList_load_blk rfl 68 _ rfl w.heap.size rfl 68 (restC n (pad (moveS xs k))) _ hN Tryd.underlying68 rfl (info_rest' n _) ?_)
      | (with_reducible show wpList _ _ _ (⟨_, .store 68 (.tmp 4) _, _, _, _, _⟩ :: _) _ _
         refine wpList_store_blk rfl 68 _ _ rfl (w.heap.size + 1) (restC n (pad (moveS xs k))) rfl rfl 68 (restC 0 (pad [])) hN1 (info_rest' n _) (restC_sizes _ _ _ _) (restC_one _ _) ?_
         intro W2 hB2 hg2
         have hBe2 : Below w.heap.size w W2 := hNe.grown hg2 hNe.size (by simp)
         clear hg2))
    exact bodyPost_ret (results_cell_tmp rfl _ _ (w.heap.size + 1) 68 (restC n (pad (moveS xs k))) (0, 0) _ rfl hB2 Tryd.underlying68 rfl (info_rest' n _)) rfl ⟨rfl, hBe2⟩
  · have hD := Lib.hid (show doesS xs k = 2 by simp [doesS, hCC.out, hX.out])
    have hP1 : Hid ((restC n (pad xs)).setIfInBounds (1 + k) (.bool false) = restC n (pad (moveS xs k))) := hP.out
    go_enter Tryd.func62, Tryd.ntmps62
    go_wp2_with (first
      | (with_reducible show wpList _ _ _ (⟨some 16, .load 68 (.tmp 2), _, _, _, _⟩ :: _) _ _
         refine wpList_load_blk rfl 68 _ rfl w.heap.size rfl 68 (restC n (pad xs)) _ (heap_alloc2_old _ _ _) Tryd.underlying68 rfl (info_rest' n xs) ?_)
      | (go_at_call 70
         refine (does_any n k xs hL.out hn (by assumption) _).mono ?_
         rintro e w1 ⟨rfl, hb1⟩
         rw [hD.out]
         have hB0 : Blk w1 w.heap.size 68 (restC n (pad xs)) := Blk.below (heap_alloc2_old _ _ _) hb1 (by simp <;> omega)
         have hB1 : Blk w1 (w.heap.size + 1) 68 (restC 0 (pad [])) := Blk.below (heap_alloc2_new _ _ _) hb1 (by simp <;> omega)
         have hBe : Below w.heap.size w w1 := (((Below.refl _ _).alloc (Nat.le_refl _) _).alloc (by simp) _).trans (hb1.mono (by simp <;> omega))
         have hcell : w1.cell? ⟨w.heap.size, 1 + k, none⟩ = some (.bool u) := by rw [hB0.cell, hU.out]
         have hfz := hB0.frozen (1 + k)
         have hN : Blk (w1.setCell ⟨w.heap.size, 1 + k, none⟩ (.bool false)) w.heap.size 68 (restC n (pad (moveS xs k))) := by
           have := hB0.set_ (1 + k) (.bool false); rwa [hP1.out] at this
         have hN1 : Blk (w1.setCell ⟨w.heap.size, 1 + k, none⟩ (.bool false)) (w.heap.size + 1) 68 (restC 0 (pad [])) := hB1.far (by simp) _
         have hNe : Below w.heap.size w (w1.setCell ⟨w.heap.size, 1 + k, none⟩ (.bool false)) := hBe.setCell (by simp) _)
      | (with_reducible show wpList _ _ _ (⟨some 27, .load 68 (.tmp 2), _, _, _, _⟩ :: _) _ _
         refine wpList_load_blk rfl 68 _ rfl w.heap.size rfl 68 (restC n (pad (moveS xs k))) _ hN Tryd.underlying68 rfl (info_rest' n _) ?_)
      | (with_reducible show wpList _ _ _ (⟨_, .store 68 (.tmp 4) _, _, _, _, _⟩ :: _) _ _
         refine wpList_store_blk rfl 68 _ _ rfl (w.heap.size + 1) (restC n (pad (moveS xs k))) rfl rfl 68 (restC 0 (pad [])) hN1 (info_rest' n _) (restC_sizes _ _ _ _) (restC_one _ _) ?_
         intro W2 hB2 hg2
         have hBe2 : Below w.heap.size w W2 := hNe.grown hg2 hNe.size (by simp)
         clear hg2))
    exact bodyPost_ret (results_cell_tmp rfl _ _ (w.heap.size + 1) 68 (restC n (pad (moveS xs k))) (0, 0) _ rfl hB2 Tryd.underlying68 rfl (info_rest' n _)) rfl ⟨rfl, hBe2⟩
end Go.Proofs.YtjhcemhnnkcjaaaDoor
