/- The couple of a pair, up. -/
import Derived.Test.YtjhcemhnnkcjaaaDoorOpened
namespace Go.Proofs.YtjhcemhnnkcjaaaDoor
open Go.RowKit
attribute [local go_sem ↓] execOp_load_rest
attribute [local go_sem] run_load_rest
set_option maxRecDepth 100000 in
set_option maxHeartbeats 2000000 in
theorem opened_up (A B : Option Addr) (n m c d : Nat) (xs ys : List Int) (w : World) (ha : RInts w w.heap.size A n xs) (hb : RInts w w.heap.size B m ys) (hn : n ≤ maxLen) (hm : m ≤ maxLen) (hx : chk xs = 0) (hy : chk ys = 0) (h6' : m ≤ 6) (hnm : n < m) :
    Calls Tryd.prog 64 #[.agg (pairC A n c B m d)] w fun e w' => e = .returned (.tuple #[.agg (coupC n m (numS xs) (numS ys)), .int .i64 0]) ∧ Below w.heap.size w w' := by
  have hX := Lib.hid hx
  have hY := Lib.hid hy
  clear hx hy
  go_enter Tryd.func64, Tryd.ntmps64
  go_wp2_with (first
    | (with_reducible show wpList _ _ _ (⟨some 1, .box 40 _, _, _, _, _⟩ :: _) _ _
       refine wpList_box_blk rfl 40 _ rfl (pairC A n c B m d) rfl ?_
       intro w0 g1 hP1 hg0 hs0
       have hBe0 : Below w.heap.size w w0 := below_none (Below.refl _ _) hg0 (Nat.le_refl _)
       have k1 := hP1.lt
       clear hg0)
    | (with_reducible show wpList _ _ _ (⟨some 2, .alloc 88, _, _, _, _⟩ :: _) _ _
       refine wpList_alloc_blk rfl 88 rfl _ zero_couple ?_
       intro w1 g2 hB2 hg1 hs1
       have hP11 := hP1.none_ hg1
       have hBe1 := below_none hBe0 hg1 hBe0.size
       have hs12 : w.heap.size ≤ g2 := by have := hBe0.size; omega
       have hpa : w1.cell? ⟨g1, 0, none⟩ = some (.slice A n c) := by rw [hP11.cell]; rfl
       clear hg1 hP1)
    | (go_at_call 49
       have _t := hpa
       refine (laid_ok A n c xs w1 ((ha.below hBe1).more hBe1.size) hn hX.out).mono ?_
       rintro e w2 ⟨rfl, hb2⟩
       have hP12 := hP11.callee hb2
       have hB22 := hB2.callee hb2
       have hBe2 := hBe1.trans (hb2.mono hBe1.size)
       have hl2 := hB22.lt
       have hl1 := hP12.lt
       clear hb2 hB2 hP11 hpa _t)
    | (with_reducible show wpList _ _ _ (⟨some 4, .alloc 68, _, _, _, _⟩ :: _) _ _
       refine wpList_alloc_blk rfl 68 rfl _ zero_rest ?_
       intro w3 g4 hB4 hg3 hs3
       have hP13 := hP12.none_ hg3
       have hB23 := hB22.none_ hg3
       have hBe3 := below_none hBe2 hg3 hBe2.size
       clear hg3 hP12 hB22)
    | (with_reducible show wpList _ _ _ (⟨_, .store 68 (.tmp 4) _, _, _, _, _⟩ :: _) _ _
       refine wpList_store_blk rfl 68 _ _ rfl g4 (restC n (pad xs)) rfl rfl 68 (restC 0 (pad [])) hB4 (info_rest' n xs) (restC_sizes _ _ _ _) (restC_one _ _) ?_
       intro w4 hB44 hg4
       have hP14 := hP13.some_ hg4 (by omega)
       have hB24 := hB23.some_ hg4 (by omega)
       have hBe4 := below_some hBe3 hg4 hBe3.size (by have := hBe2.size; omega)
       have hl4 := hB44.lt
       have hpb : w4.cell? ⟨g1, 1, none⟩ = some (.slice B m d) := by rw [hP14.cell]; rfl
       clear hg4 hP13 hB23 hB4)
    | (go_at_call 49
       have _t := hpb
       refine (laid_ok B m d ys w4 ((hb.below hBe4).more hBe4.size) hm hY.out).mono ?_
       rintro e w5 ⟨rfl, hb5⟩
       have hB25 := hB24.callee hb5
       have hB45 := hB44.callee hb5
       have hBe5 := hBe4.trans (hb5.mono hBe4.size)
       have hl2' := hB25.lt
       have hl4' := hB45.lt
       clear hb5 hB24 hB44 hP14 hpb _t)
    | (with_reducible show wpList _ _ _ (⟨some 6, .alloc 68, _, _, _, _⟩ :: _) _ _
       refine wpList_alloc_blk rfl 68 rfl _ zero_rest ?_
       intro w6 g6 hB6 hg6 hs6
       have hB26 := hB25.none_ hg6
       have hB46 := hB45.none_ hg6
       have hBe6 := below_none hBe5 hg6 hBe5.size
       clear hg6 hB25 hB45)
    | (with_reducible show wpList _ _ _ (⟨_, .store 68 (.tmp 6) _, _, _, _, _⟩ :: _) _ _
       refine wpList_store_blk rfl 68 _ _ rfl g6 (restC m (pad ys)) rfl rfl 68 (restC 0 (pad [])) hB6 (info_rest' m ys) (restC_sizes _ _ _ _) (restC_one _ _) ?_
       intro w7 hB67 hg7
       have hB27 := hB26.some_ hg7 (by omega)
       have hB47 := hB46.some_ hg7 (by omega)
       have hBe7 := below_some hBe6 hg7 hBe6.size (by have := hBe5.size; omega)
       have hc4 : w7.cell? ⟨g4, 0, none⟩ = some (.int .i64 (n : Int)) := by rw [hB47.cell, restC_zero]
       have hc6 : w7.cell? ⟨g6, 0, none⟩ = some (.int .i64 (m : Int)) := by rw [hB67.cell, restC_zero]
       clear hg7 hB26 hB46 hB6))
  have hr4 := restAt_of hB47
  have hr6 := restAt_of hB67
  have hne4 : g4 ≠ g2 := by omega
  have hne6 : g6 ≠ g2 := by omega
  have hge2 := hs12
  go_region_held3 (fun w' => aggAt 68 17 w' g4 = some (restC n (pad xs)) ∧ aggAt 68 17 w' g6 = some (restC m (pad ys)) ∧ w'.cell? ⟨g4, 0, none⟩ = some (.int .i64 (n : Int)) ∧ w'.cell? ⟨g6, 0, none⟩ = some (.int .i64 (m : Int)) ∧
      (∃ cs, Blk w' g2 88 cs ∧ cs.size = 4) ∧ Blk w' g4 68 (restC n (pad xs)) ∧ Blk w' g6 68 (restC m (pad ys)) ∧ Below w.heap.size w w')
    (first | assumption | exact openedS_of ⟨_, hB27, rfl⟩ hB47 hB67 hBe7.drew | exact openedS_store (openedS_store (openedS_store (openedS_store (by assumption) hne4 hne6 hge2 _ _) hne4 hne6 hge2 _ _) hne4 hne6 hge2 _ _) hne4 hne6 hge2 _ _)
    (first | (go_at_call_of 50 (Value.agg (restC n (pad xs))); refine (number_pad n xs hX.out _).mono ?_; rintro e w8 ⟨rfl, hb8⟩; have hS8 := openedS_keep (by assumption) hb8) | (go_at_call_of 50 (Value.agg (restC m (pad ys))); refine (number_pad m ys hY.out _).mono ?_; rintro e w9 ⟨rfl, hb9⟩; have hS9 := openedS_keep (by assumption) hb9; obtain ⟨v0, v1, v2, v3, hB9, k0, k1, k2, k3, f0, f1, f2, f3⟩ := openedS_cells hS9))
  go_wp2_with (fail)
  have hBf : Blk ((((w9.setCell ⟨g2, 0, none⟩ (.int .i64 (n : Int))).setCell ⟨g2, 1, none⟩ (.int .i64 (m : Int))).setCell ⟨g2, 2, none⟩ (.int .i64 (numS xs : Nat))).setCell ⟨g2, 3, none⟩ (.int .i64 (numS ys : Nat))) g2 88 (coupC n m (numS xs) (numS ys)) := (((hB9.set_ 0 _).set_ 1 _).set_ 2 _).set_ 3 _
  obtain ⟨_, _, _, _, _, _, _, hBeF⟩ := hS9
  exact bodyPost_ret (results_cell_tmp rfl _ _ g2 88 _ (0, 0) _ rfl hBf Tryd.underlying88 rfl (info_coup n m _ _)) rfl ⟨rfl, (((hBeF.setCell hge2 _).setCell hge2 _).setCell hge2 _).setCell hge2 _⟩
end Go.Proofs.YtjhcemhnnkcjaaaDoor
