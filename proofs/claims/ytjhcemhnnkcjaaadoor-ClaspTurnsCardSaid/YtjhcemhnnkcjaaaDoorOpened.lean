/- The couple of a pair, or its error. -/
import Derived.Test.YtjhcemhnnkcjaaaDoorWalked
namespace Go.Proofs.YtjhcemhnnkcjaaaDoor
open Go.RowKit
def pairE (xs ys : List Int) : Int := if chk xs ≠ 0 then chk xs else if chk ys ≠ 0 then chk ys else if 6 < max xs.length ys.length then 3 else 0
def coupC (n m a b : Int) : Array Value := #[.int .i64 n, .int .i64 m, .int .i64 a, .int .i64 b]
def pairC (A : Option Addr) (n c : Nat) (B : Option Addr) (m d : Nat) : Array Value := #[.slice A n c, .slice B m d]
theorem coupC_one (n m a b : Int) : (coupC n m a b).all (·.oneCell') = true := by simp [coupC, Value.oneCell']
theorem zero_couple (w : World) : (zeroValue 88).run Tryd.prog w = .ok (.agg (coupC 0 0 0 0)) w := Tryd.zeroValue88 w
theorem info_coup (n m a b : Int) : (Tryd.prog.info? 88).map (·.size) = some (coupC n m a b).size := by
  show _ = some 4; kernel_rfl
theorem pairE_ok {xs ys : List Int} (h : pairE xs ys = 0) : chk xs = 0 ∧ chk ys = 0 ∧ xs.length ≤ 6 ∧ ys.length ≤ 6 := by
  unfold pairE at h
  by_cases h1 : chk xs = 0
  · by_cases h2 : chk ys = 0
    · by_cases h3 : 6 < max xs.length ys.length
      · simp [h1, h2, h3] at h
      · exact ⟨h1, h2, by omega, by omega⟩
    · simp [h1, h2] at h
  · simp [h1] at h
theorem pairE_1 {xs ys : List Int} (h : chk xs ≠ 0) : pairE xs ys = chk xs := by simp [pairE, h]
theorem pairE_2 {xs ys : List Int} (h1 : chk xs = 0) (h : chk ys ≠ 0) : pairE xs ys = chk ys := by simp [pairE, h1, h]
theorem pairE_3 {xs ys : List Int} (h1 : chk xs = 0) (h2 : chk ys = 0) (h : 6 < max xs.length ys.length) : pairE xs ys = 3 := by
  simp only [pairE, h1, h2, ne_eq, not_true_eq_false, if_false]; rw [if_pos h]
theorem pairE_4 {xs ys : List Int} (h1 : chk xs = 0) (h2 : chk ys = 0) (h : xs.length ≤ 6) (h' : ys.length ≤ 6) : pairE xs ys = 0 := by
  simp only [pairE, h1, h2, ne_eq, not_true_eq_false, if_false]; rw [if_neg (by omega)]
set_option maxRecDepth 100000 in
set_option maxHeartbeats 1000000 in
theorem opened_bad (A B : Option Addr) (n m c d : Nat) (xs ys : List Int) (w : World) (ha : RInts w w.heap.size A n xs) (hb : RInts w w.heap.size B m ys) (hn : n ≤ maxLen) (hm : m ≤ maxLen) (he : pairE xs ys ≠ 0) :
    Calls Tryd.prog 64 #[.agg (pairC A n c B m d)] w fun e w' => e = .returned (.tuple #[.agg (coupC 0 0 0 0), .int .i64 (pairE xs ys)]) ∧ Below w.heap.size w w' := by
  have hE := Lib.hid he
  clear he
  by_cases hx : chk xs = 0
  · have hX := Lib.hid hx
    clear hx
    by_cases hy : chk ys = 0
    · have hY := Lib.hid hy
      clear hy
      have hnm : 6 < max n m := by
        refine Classical.byContradiction fun h => hE.out (pairE_4 hX.out hY.out ?_ ?_)
        · rw [ha.len]; omega
        · rw [hb.len]; omega
      have hP := Lib.hid (pairE_3 hX.out hY.out (by rw [ha.len, hb.len]; exact hnm))
      go_enter Tryd.func64, Tryd.ntmps64
      go_wp2_with (first
        | (with_reducible show wpList _ _ _ (⟨some 1, .box 40 _, _, _, _, _⟩ :: _) _ _
           refine wpList_box_blk rfl 40 _ rfl (pairC A n c B m d) rfl ?_
           intro w0 g1 hP1 hg0 hs0
           have hBe0 : Below w.heap.size w w0 := below_none (Below.refl _ _) hg0 (Nat.le_refl _)
           have k1 := hP1.lt
           clear hg0)
        | (with_reducible show wpList _ _ _ (⟨some 2, .alloc 88, _, _, _, _⟩ :: _) _ _
           refine wpList_alloc_blk rfl 88 rfl _ zero_couple ?_
           intro w1 g2 hB2 hg1 hs1
           have hP11 := hP1.none_ hg1
           have hBe1 := below_none hBe0 hg1 hBe0.size
           have hs12 : w.heap.size ≤ g2 := by have := hBe0.size; omega
           have hpa : w1.cell? ⟨g1, 0, none⟩ = some (.slice A n c) := by rw [hP11.cell]; rfl
           clear hg1 hP1)
        | (go_at_call 49
           have _t := hpa
           refine (laid_ok A n c xs w1 ((ha.below hBe1).more hBe1.size) hn hX.out).mono ?_
           rintro e w2 ⟨rfl, hb2⟩
           have hP12 := hP11.callee hb2
           have hB22 := hB2.callee hb2
           have hBe2 := hBe1.trans (hb2.mono hBe1.size)
           have hl2 := hB22.lt
           have hl1 := hP12.lt
           clear hb2 hB2 hP11 hpa _t)
        | (with_reducible show wpList _ _ _ (⟨some 4, .alloc 68, _, _, _, _⟩ :: _) _ _
           refine wpList_alloc_blk rfl 68 rfl _ zero_rest ?_
           intro w3 g4 hB4 hg3 hs3
           have hP13 := hP12.none_ hg3
           have hB23 := hB22.none_ hg3
           have hBe3 := below_none hBe2 hg3 hBe2.size
           clear hg3 hP12 hB22)
        | (with_reducible show wpList _ _ _ (⟨_, .store 68 (.tmp 4) _, _, _, _, _⟩ :: _) _ _
           refine wpList_store_blk rfl 68 _ _ rfl g4 (restC n (pad xs)) rfl rfl 68 (restC 0 (pad [])) hB4 (info_rest' n xs) (restC_sizes _ _ _ _) (restC_one _ _) ?_
           intro w4 hB44 hg4
           have hP14 := hP13.some_ hg4 (by omega)
           have hB24 := hB23.some_ hg4 (by omega)
           have hBe4 := below_some hBe3 hg4 hBe3.size (by have := hBe2.size; omega)
           have hl4 := hB44.lt
           have hpb : w4.cell? ⟨g1, 1, none⟩ = some (.slice B m d) := by rw [hP14.cell]; rfl
           clear hg4 hP13 hB23 hB4)
        | (go_at_call 49
           have _t := hpb
           refine (laid_ok B m d ys w4 ((hb.below hBe4).more hBe4.size) hm hY.out).mono ?_
           rintro e w5 ⟨rfl, hb5⟩
           have hB25 := hB24.callee hb5
           have hB45 := hB44.callee hb5
           have hBe5 := hBe4.trans (hb5.mono hBe4.size)
           have hl2' := hB25.lt
           have hl4' := hB45.lt
           clear hb5 hB24 hB44 hP14 hpb _t)
        | (with_reducible show wpList _ _ _ (⟨some 6, .alloc 68, _, _, _, _⟩ :: _) _ _
           refine wpList_alloc_blk rfl 68 rfl _ zero_rest ?_
           intro w6 g6 hB6 hg6 hs6
           have hB26 := hB25.none_ hg6
           have hB46 := hB45.none_ hg6
           have hBe6 := below_none hBe5 hg6 hBe5.size
           clear hg6 hB25 hB45)
        | (with_reducible show wpList _ _ _ (⟨_, .store 68 (.tmp 6) _, _, _, _, _⟩ :: _) _ _
           refine wpList_store_blk rfl 68 _ _ rfl g6 (restC m (pad ys)) rfl rfl 68 (restC 0 (pad [])) hB6 (info_rest' m ys) (restC_sizes _ _ _ _) (restC_one _ _) ?_
           intro w7 hB67 hg7
           have hB27 := hB26.some_ hg7 (by omega)
           have hB47 := hB46.some_ hg7 (by omega)
           have hBe7 := below_some hBe6 hg7 hBe6.size (by have := hBe5.size; omega)
           have hc4 : w7.cell? ⟨g4, 0, none⟩ = some (.int .i64 (n : Int)) := by rw [hB47.cell, restC_zero]
           have hc6 : w7.cell? ⟨g6, 0, none⟩ = some (.int .i64 (m : Int)) := by rw [hB67.cell, restC_zero]
           clear hg7 hB26 hB46 hB6)
        | (with_reducible show wpList _ _ _ (⟨_, .store 88 (.tmp 2) _, _, _, _, _⟩ :: _) _ _
           refine wpList_store_blk rfl 88 _ _ rfl g2 (coupC 0 0 0 0) rfl rfl 88 (coupC 0 0 0 0) hB27 (info_coup 0 0 0 0) rfl (coupC_one _ _ _ _) ?_
           intro w10 hB210 hg10
           have hBe10 := below_some hBe7 hg10 hBe7.size hs12
           clear hg10))
      all_goals refine bodyPost_ret (results_cell_tmp rfl _ _ g2 88 (coupC 0 0 0 0) (0, 0) _ rfl hB210 Tryd.underlying88 rfl (info_coup 0 0 0 0)) rfl ⟨by rw [hP.out]; rfl, hBe10⟩
    · have hY := Lib.hid hy
      clear hy
      have hP := Lib.hid (pairE_2 hX.out hY.out)
      have hnb : (chk ys != 0) = true := by simpa using hY.out
      go_enter Tryd.func64, Tryd.ntmps64
      go_wp2_with (first
        | (with_reducible show wpList _ _ _ (⟨some 1, .box 40 _, _, _, _, _⟩ :: _) _ _
           refine wpList_box_blk rfl 40 _ rfl (pairC A n c B m d) rfl ?_
           intro w0 g1 hP1 hg0 hs0
           have hBe0 : Below w.heap.size w w0 := below_none (Below.refl _ _) hg0 (Nat.le_refl _)
           have k1 := hP1.lt
           clear hg0)
        | (with_reducible show wpList _ _ _ (⟨some 2, .alloc 88, _, _, _, _⟩ :: _) _ _
           refine wpList_alloc_blk rfl 88 rfl _ zero_couple ?_
           intro w1 g2 hB2 hg1 hs1
           have hP11 := hP1.none_ hg1
           have hBe1 := below_none hBe0 hg1 hBe0.size
           have hs12 : w.heap.size ≤ g2 := by have := hBe0.size; omega
           have hpa : w1.cell? ⟨g1, 0, none⟩ = some (.slice A n c) := by rw [hP11.cell]; rfl
           clear hg1 hP1)
        | (go_at_call 49
           have _t := hpa
           refine (laid_ok A n c xs w1 ((ha.below hBe1).more hBe1.size) hn hX.out).mono ?_
           rintro e w2 ⟨rfl, hb2⟩
           have hP12 := hP11.callee hb2
           have hB22 := hB2.callee hb2
           have hBe2 := hBe1.trans (hb2.mono hBe1.size)
           have hl2 := hB22.lt
           have hl1 := hP12.lt
           clear hb2 hB2 hP11 hpa _t)
        | (with_reducible show wpList _ _ _ (⟨some 4, .alloc 68, _, _, _, _⟩ :: _) _ _
           refine wpList_alloc_blk rfl 68 rfl _ zero_rest ?_
           intro w3 g4 hB4 hg3 hs3
           have hP13 := hP12.none_ hg3
           have hB23 := hB22.none_ hg3
           have hBe3 := below_none hBe2 hg3 hBe2.size
           clear hg3 hP12 hB22)
        | (with_reducible show wpList _ _ _ (⟨_, .store 68 (.tmp 4) _, _, _, _, _⟩ :: _) _ _
           refine wpList_store_blk rfl 68 _ _ rfl g4 (restC n (pad xs)) rfl rfl 68 (restC 0 (pad [])) hB4 (info_rest' n xs) (restC_sizes _ _ _ _) (restC_one _ _) ?_
           intro w4 hB44 hg4
           have hP14 := hP13.some_ hg4 (by omega)
           have hB24 := hB23.some_ hg4 (by omega)
           have hBe4 := below_some hBe3 hg4 hBe3.size (by have := hBe2.size; omega)
           have hl4 := hB44.lt
           have hpb : w4.cell? ⟨g1, 1, none⟩ = some (.slice B m d) := by rw [hP14.cell]; rfl
           clear hg4 hP13 hB23 hB4)
        | (go_at_call 49
           have _t := hpb
           refine (laid_bad B m d ys w4 ((hb.below hBe4).more hBe4.size) hm hY.out).mono ?_
           rintro e w5 ⟨rfl, hb5⟩
           have hB25 := hB24.callee hb5
           have hB45 := hB44.callee hb5
           have hBe5 := hBe4.trans (hb5.mono hBe4.size)
           have hl2' := hB25.lt
           have hl4' := hB45.lt
           clear hb5 hB24 hB44 hP14 hpb _t)
        | (with_reducible show wpList _ _ _ (⟨some 6, .alloc 68, _, _, _, _⟩ :: _) _ _
           refine wpList_alloc_blk rfl 68 rfl _ zero_rest ?_
           intro w6 g6 hB6 hg6 hs6
           have hB26 := hB25.none_ hg6
           have hB46 := hB45.none_ hg6
           have hBe6 := below_none hBe5 hg6 hBe5.size
           clear hg6 hB25 hB45)
        | (with_reducible show wpList _ _ _ (⟨_, .store 68 (.tmp 6) _, _, _, _, _⟩ :: _) _ _
           refine wpList_store_blk rfl 68 _ _ rfl g6 (restC 0 (pad [])) rfl rfl 68 (restC 0 (pad [])) hB6 (info_rest' 0 []) (restC_sizes _ _ _ _) (restC_one _ _) ?_
           intro w7 hB67 hg7
           have hB27 := hB26.some_ hg7 (by omega)
           have hB47 := hB46.some_ hg7 (by omega)
           have hBe7 := below_some hBe6 hg7 hBe6.size (by have := hBe5.size; omega)
           have hc4 : w7.cell? ⟨g4, 0, none⟩ = some (.int .i64 (n : Int)) := by rw [hB47.cell, restC_zero]
           have hc6 : w7.cell? ⟨g6, 0, none⟩ = some (.int .i64 ((0 : Nat) : Int)) := by rw [hB67.cell, restC_zero]
           clear hg7 hB26 hB46 hB6)
        | (with_reducible show wpList _ _ _ (⟨_, .store 88 (.tmp 2) _, _, _, _, _⟩ :: _) _ _
           refine wpList_store_blk rfl 88 _ _ rfl g2 (coupC 0 0 0 0) rfl rfl 88 (coupC 0 0 0 0) hB27 (info_coup 0 0 0 0) rfl (coupC_one _ _ _ _) ?_
           intro w10 hB210 hg10
           have hBe10 := below_some hBe7 hg10 hBe7.size hs12
           clear hg10))
      refine bodyPost_ret (results_cell_tmp rfl _ _ g2 88 (coupC 0 0 0 0) (0, 0) _ rfl hB210 Tryd.underlying88 rfl (info_coup 0 0 0 0)) rfl ⟨by rw [hP.out]; rfl, hBe10⟩
  · have hX := Lib.hid hx
    clear hx
    have hP := Lib.hid (pairE_1 (ys := ys) hX.out)
    have hnb : (chk xs != 0) = true := by simpa using hX.out
    go_enter Tryd.func64, Tryd.ntmps64
    go_wp2_with (first
      | (with_reducible show wpList _ _ _ (⟨some 1, .box 40 _, _, _, _, _⟩ :: _) _ _
         refine wpList_box_blk rfl 40 _ rfl (pairC A n c B m d) rfl ?_
         intro w0 g1 hP1 hg0 hs0
         have hBe0 : Below w.heap.size w w0 := below_none (Below.refl _ _) hg0 (Nat.le_refl _)
         have k1 := hP1.lt
         clear hg0)
      | (with_reducible show wpList _ _ _ (⟨some 2, .alloc 88, _, _, _, _⟩ :: _) _ _
         refine wpList_alloc_blk rfl 88 rfl _ zero_couple ?_
         intro w1 g2 hB2 hg1 hs1
         have hP11 := hP1.none_ hg1
         have hBe1 := below_none hBe0 hg1 hBe0.size
         have hs12 : w.heap.size ≤ g2 := by have := hBe0.size; omega
         have hpa : w1.cell? ⟨g1, 0, none⟩ = some (.slice A n c) := by rw [hP11.cell]; rfl
         clear hg1 hP1)
      | (go_at_call 49
         have _t := hpa
         refine (laid_bad A n c xs w1 ((ha.below hBe1).more hBe1.size) hn hX.out).mono ?_
         rintro e w2 ⟨rfl, hb2⟩
         have hP12 := hP11.callee hb2
         have hB22 := hB2.callee hb2
         have hBe2 := hBe1.trans (hb2.mono hBe1.size)
         have hl2 := hB22.lt
         have hl1 := hP12.lt
         clear hb2 hB2 hP11 hpa _t)
      | (with_reducible show wpList _ _ _ (⟨some 4, .alloc 68, _, _, _, _⟩ :: _) _ _
         refine wpList_alloc_blk rfl 68 rfl _ zero_rest ?_
         intro w3 g4 hB4 hg3 hs3
         have hP13 := hP12.none_ hg3
         have hB23 := hB22.none_ hg3
         have hBe3 := below_none hBe2 hg3 hBe2.size
         clear hg3 hP12 hB22)
      | (with_reducible show wpList _ _ _ (⟨_, .store 68 (.tmp 4) _, _, _, _, _⟩ :: _) _ _
         refine wpList_store_blk rfl 68 _ _ rfl g4 (restC 0 (pad [])) rfl rfl 68 (restC 0 (pad [])) hB4 (info_rest' 0 []) (restC_sizes _ _ _ _) (restC_one _ _) ?_
         intro w4 hB44 hg4
         have hP14 := hP13.some_ hg4 (by omega)
         have hB24 := hB23.some_ hg4 (by omega)
         have hBe4 := below_some hBe3 hg4 hBe3.size (by have := hBe2.size; omega)
         have hl4 := hB44.lt
         have hpb : w4.cell? ⟨g1, 1, none⟩ = some (.slice B m d) := by rw [hP14.cell]; rfl
         clear hg4 hP13 hB23 hB4)
      | (with_reducible show wpList _ _ _ (⟨_, .store 88 (.tmp 2) _, _, _, _, _⟩ :: _) _ _
         refine wpList_store_blk rfl 88 _ _ rfl g2 (coupC 0 0 0 0) rfl rfl 88 (coupC 0 0 0 0) hB24 (info_coup 0 0 0 0) rfl (coupC_one _ _ _ _) ?_
         intro w10 hB210 hg10
         have hBe10 := below_some hBe4 hg10 hBe4.size hs12
         clear hg10))
    refine bodyPost_ret (results_cell_tmp rfl _ _ g2 88 (coupC 0 0 0 0) (0, 0) _ rfl hB210 Tryd.underlying88 rfl (info_coup 0 0 0 0)) rfl ⟨by rw [hP.out]; rfl, hBe10⟩
abbrev openedS (w : World) (g2 g4 g6 n m : Nat) (xs ys : List Int) (w' : World) : Prop :=
  aggAt 68 17 w' g4 = some (restC n (pad xs)) ∧ aggAt 68 17 w' g6 = some (restC m (pad ys)) ∧ w'.cell? ⟨g4, 0, none⟩ = some (.int .i64 (n : Int)) ∧ w'.cell? ⟨g6, 0, none⟩ = some (.int .i64 (m : Int)) ∧
      (∃ cs, Blk w' g2 88 cs ∧ cs.size = 4) ∧ Blk w' g4 68 (restC n (pad xs)) ∧ Blk w' g6 68 (restC m (pad ys)) ∧ Below w.heap.size w w'
theorem openedS_of {w w' : World} {g2 g4 g6 n m : Nat} {xs ys : List Int} (h2 : ∃ cs, Blk w' g2 88 cs ∧ cs.size = 4) (h4 : Blk w' g4 68 (restC n (pad xs))) (h6 : Blk w' g6 68 (restC m (pad ys))) (hb : Below w.heap.size w w') : openedS w g2 g4 g6 n m xs ys w' :=
  ⟨restAt_of h4, restAt_of h6, by rw [h4.cell, restC_zero], by rw [h6.cell, restC_zero], h2, h4, h6, hb⟩
theorem openedS_keep {w w0 w' : World} {g2 g4 g6 n m : Nat} {xs ys : List Int} (h : openedS w g2 g4 g6 n m xs ys w0) (hb : Below w0.heap.size w0 w') : openedS w g2 g4 g6 n m xs ys w' := by
  obtain ⟨_, _, _, _, ⟨cs, h2, hs⟩, h4, h6, hB⟩ := h
  exact openedS_of ⟨cs, h2.callee hb, hs⟩ (h4.callee hb) (h6.callee hb) (hB.trans (hb.mono hB.size))
theorem openedS_store {w w0 : World} {g2 g4 g6 n m : Nat} {xs ys : List Int} (h : openedS w g2 g4 g6 n m xs ys w0) (h4n : g4 ≠ g2) (h6n : g6 ≠ g2) (hg : w.heap.size ≤ g2) (i : Nat) (v : Value) : openedS w g2 g4 g6 n m xs ys (w0.setCell ⟨g2, i, none⟩ v) := by
  obtain ⟨_, _, _, _, ⟨cs, h2, hs⟩, h4, h6, hB⟩ := h
  exact openedS_of ⟨_, h2.set_ i v, by simpa using hs⟩ (h4.far h4n _) (h6.far h6n _) (hB.setCell hg _)
theorem openedS_cells {w w0 : World} {g2 g4 g6 n m : Nat} {xs ys : List Int} (h : openedS w g2 g4 g6 n m xs ys w0) : ∃ v0 v1 v2 v3, Blk w0 g2 88 #[v0, v1, v2, v3] ∧ w0.cell? ⟨g2, 0, none⟩ = some v0 ∧ w0.cell? ⟨g2, 1, none⟩ = some v1 ∧ w0.cell? ⟨g2, 2, none⟩ = some v2 ∧ w0.cell? ⟨g2, 3, none⟩ = some v3 ∧
    w0.frozen? ⟨g2, 0, none⟩ = false ∧ w0.frozen? ⟨g2, 1, none⟩ = false ∧ w0.frozen? ⟨g2, 2, none⟩ = false ∧ w0.frozen? ⟨g2, 3, none⟩ = false := by
  obtain ⟨_, _, _, _, ⟨cs, h2, hs⟩, _⟩ := h
  obtain ⟨l⟩ := cs
  match l, hs with
  | [v0, v1, v2, v3], _ => exact ⟨v0, v1, v2, v3, h2, by rw [h2.cell]; rfl, by rw [h2.cell]; rfl, by rw [h2.cell]; rfl, by rw [h2.cell]; rfl, h2.frozen _, h2.frozen _, h2.frozen _, h2.frozen _⟩
end Go.Proofs.YtjhcemhnnkcjaaaDoor
