/- The walk from a position to another one, or their error. -/
import Derived.Test.YtjhcemhnnkcjaaaDoorProg
import Derived.Test.YtjhcemhnnkcjaaaDoorNumber
import Derived.Test.YtjhcemhnnkcjaaaDoorRestAt
import Derived.Deep.RegionHeld3
namespace Go.Proofs.YtjhcemhnnkcjaaaDoor
open Go.RowKit
def bothE (xs ys : List Int) : Int := if chk xs ≠ 0 then chk xs else if chk ys ≠ 0 then chk ys else if xs.length ≠ ys.length then 5 else 0
def walkC (n a b : Int) : Array Value := #[.int .i64 n, .int .i64 a, .int .i64 b]
theorem walkC_one (n a b : Int) : (walkC n a b).all (·.oneCell') = true := by simp [walkC, Value.oneCell']
theorem zero_walk (w : World) : (zeroValue 78).run Tryd.prog w = .ok (.agg (walkC 0 0 0)) w := Tryd.zeroValue78 w
theorem zero_rest (w : World) : (zeroValue 68).run Tryd.prog w = .ok (.agg (restC 0 (pad []))) w := Tryd.zeroValue68 w
theorem info_walk (n a b : Int) : (Tryd.prog.info? 78).map (·.size) = some (walkC n a b).size := by
  show _ = some 3; kernel_rfl
theorem number_pad (n : Nat) (xs : List Int) (hc : chk xs = 0) (w : World) :
    Calls Tryd.prog 50 #[.agg (restC n (pad xs))] w fun e w' => e = .returned (.int .i64 (numS xs : Nat)) ∧ Below w.heap.size w w' := by
  have h := chk_zero hc
  have := number_any n (pad xs) (pad_length xs) w
  rwa [numS_pad xs (bin_of_all h.2.2) h.2.1] at this
attribute [local go_sem ↓] execOp_load_rest
attribute [local go_sem] run_load_rest
abbrev walkedS (w : World) (g4 g6 g8 n : Nat) (xs ys : List Int) (w' : World) : Prop :=
  aggAt 68 17 w' g6 = some (restC n (pad xs)) ∧ aggAt 68 17 w' g8 = some (restC n (pad ys)) ∧ w'.cell? ⟨g6, 0, none⟩ = some (.int .i64 (n : Int)) ∧
      (∃ cs, Blk w' g4 78 cs ∧ cs.size = 3) ∧ Blk w' g6 68 (restC n (pad xs)) ∧ Blk w' g8 68 (restC n (pad ys)) ∧ Below w.heap.size w w'
theorem walkedS_of {w w' : World} {g4 g6 g8 n : Nat} {xs ys : List Int} (h4 : ∃ cs, Blk w' g4 78 cs ∧ cs.size = 3) (h6 : Blk w' g6 68 (restC n (pad xs))) (h8 : Blk w' g8 68 (restC n (pad ys))) (hb : Below w.heap.size w w') : walkedS w g4 g6 g8 n xs ys w' :=
  ⟨restAt_of h6, restAt_of h8, by rw [h6.cell, restC_zero], h4, h6, h8, hb⟩
theorem walkedS_keep {w w0 w' : World} {g4 g6 g8 n : Nat} {xs ys : List Int} (h : walkedS w g4 g6 g8 n xs ys w0) (hb : Below w0.heap.size w0 w') : walkedS w g4 g6 g8 n xs ys w' := by
  obtain ⟨_, _, _, ⟨cs, h4, hs⟩, h6, h8, hB⟩ := h
  exact walkedS_of ⟨cs, h4.callee hb, hs⟩ (h6.callee hb) (h8.callee hb) (hB.trans (hb.mono hB.size))
theorem walkedS_store {w w0 : World} {g4 g6 g8 n : Nat} {xs ys : List Int} (h : walkedS w g4 g6 g8 n xs ys w0) (h46 : g6 ≠ g4) (h48 : g8 ≠ g4) (h4 : w.heap.size ≤ g4) (i : Nat) (v : Value) : walkedS w g4 g6 g8 n xs ys (w0.setCell ⟨g4, i, none⟩ v) := by
  obtain ⟨_, _, _, ⟨cs, hB4, hs⟩, h6, h8, hB⟩ := h
  exact walkedS_of ⟨_, hB4.set_ i v, by simpa using hs⟩ (h6.far h46 _) (h8.far h48 _) (hB.setCell h4 _)
theorem walkedS_cells {w w0 : World} {g4 g6 g8 n : Nat} {xs ys : List Int} (h : walkedS w g4 g6 g8 n xs ys w0) : ∃ v0 v1 v2, Blk w0 g4 78 #[v0, v1, v2] ∧ w0.cell? ⟨g4, 0, none⟩ = some v0 ∧ w0.cell? ⟨g4, 1, none⟩ = some v1 ∧ w0.cell? ⟨g4, 2, none⟩ = some v2 ∧
    w0.frozen? ⟨g4, 0, none⟩ = false ∧ w0.frozen? ⟨g4, 1, none⟩ = false ∧ w0.frozen? ⟨g4, 2, none⟩ = false := by
  obtain ⟨_, _, _, ⟨cs, h4, hs⟩, _⟩ := h
  obtain ⟨l⟩ := cs
  match l, hs with
  | [v0, v1, v2], _ => exact ⟨v0, v1, v2, h4, by rw [h4.cell]; rfl, by rw [h4.cell]; rfl, by rw [h4.cell]; rfl, h4.frozen _, h4.frozen _, h4.frozen _⟩
set_option maxRecDepth 100000 in
set_option maxHeartbeats 1000000 in
theorem walked_ok (A B : Option Addr) (n c d : Nat) (xs ys : List Int) (w : World) (ha : RInts w w.heap.size A n xs) (hb : RInts w w.heap.size B n ys) (hn : n ≤ maxLen) (hx : chk xs = 0) (hy : chk ys = 0) :
    Calls Tryd.prog 56 #[.slice A n c, .slice B n d] w fun e w' => e = .returned (.tuple #[.agg (walkC n (numS xs) (numS ys)), .int .i64 0]) ∧ Below w.heap.size w w' := by
  have hX := Lib.hid hx
  have hY := Lib.hid hy
  clear hx hy
  go_enter Tryd.func56, Tryd.ntmps56
  go_wp2_with (first
    | (with_reducible show wpList _ _ _ (⟨some 4, .alloc 78, _, _, _, _⟩ :: _) _ _
       refine wpList_alloc_blk rfl 78 rfl _ zero_walk ?_
       intro w1 g4 hB4 hg1 hs1
       have hBe1 : Below w.heap.size w w1 := below_none (Below.refl _ _) hg1 (Nat.le_refl _)
       have hs14 := hs1
       clear hg1)
    | (go_at_call 49
       have _t := hs1
       refine (laid_ok A n c xs w1 ((ha.below hBe1).more hBe1.size) hn hX.out).mono ?_
       rintro e w2 ⟨rfl, hb2⟩
       have hB42 := hB4.callee hb2
       have hBe2 := hBe1.trans (hb2.mono hBe1.size)
       have hl4 := hB42.lt
       clear hb2 hB4 hs1)
    | (with_reducible show wpList _ _ _ (⟨some 6, .alloc 68, _, _, _, _⟩ :: _) _ _
       refine wpList_alloc_blk rfl 68 rfl _ zero_rest ?_
       intro w3 g6 hB6 hg3 hs3
       have hB43 := hB42.none_ hg3
       have hBe3 := below_none hBe2 hg3 hBe2.size
       clear hg3 hB42)
    | (with_reducible show wpList _ _ _ (⟨_, .store 68 (.tmp 6) _, _, _, _, _⟩ :: _) _ _
       refine wpList_store_blk rfl 68 _ _ rfl g6 (restC n (pad xs)) rfl rfl 68 (restC 0 (pad [])) hB6 (info_rest' n xs) (restC_sizes _ _ _ _) (restC_one _ _) ?_
       intro w4 hB64 hg4
       have hB44 := hB43.some_ hg4 (by omega)
       have hBe4 := below_some hBe3 hg4 hBe3.size (by have := hBe2.size; omega)
       have hl6 := hB64.lt
       clear hg4 hB43 hB6)
    | (go_at_call 49
       have _t := hB64
       refine (laid_ok B n d ys w4 ((hb.below hBe4).more hBe4.size) hn hY.out).mono ?_
       rintro e w5 ⟨rfl, hb5⟩
       have hB45 := hB44.callee hb5
       have hB65 := hB64.callee hb5
       have hBe5 := hBe4.trans (hb5.mono hBe4.size)
       have hl6' := hB65.lt
       clear hb5 hB44 hB64)
    | (with_reducible show wpList _ _ _ (⟨some 8, .alloc 68, _, _, _, _⟩ :: _) _ _
       refine wpList_alloc_blk rfl 68 rfl _ zero_rest ?_
       intro w6 g8 hB8 hg6 hs6
       have hB46 := hB45.none_ hg6
       have hB66 := hB65.none_ hg6
       have hBe6 := below_none hBe5 hg6 hBe5.size
       clear hg6 hB45 hB65)
    | (with_reducible show wpList _ _ _ (⟨_, .store 68 (.tmp 8) _, _, _, _, _⟩ :: _) _ _
       refine wpList_store_blk rfl 68 _ _ rfl g8 (restC n (pad ys)) rfl rfl 68 (restC 0 (pad [])) hB8 (info_rest' n ys) (restC_sizes _ _ _ _) (restC_one _ _) ?_
       intro w7 hB87 hg7
       have hB47 := hB46.some_ hg7 (by have := hB46.lt; have := hBe5.size; omega)
       have hB67 := hB66.some_ hg7 (by omega)
       have hBe7 := below_some hBe6 hg7 hBe6.size (by have := hBe5.size; omega)
       have hc6 : w7.cell? ⟨g6, 0, none⟩ = some (.int .i64 (n : Int)) := by rw [hB67.cell, restC_zero]
       have hc8 : w7.cell? ⟨g8, 0, none⟩ = some (.int .i64 (n : Int)) := by rw [hB87.cell, restC_zero]
       clear hg7 hB46 hB66 hB8))
  have hr6 := restAt_of hB67
  have hr8 := restAt_of hB87
  have hne6 : g6 ≠ g4 := by omega
  have hne8 : g8 ≠ g4 := by omega
  have hge4 := hs14
  go_region_held3 (fun w' => aggAt 68 17 w' g6 = some (restC n (pad xs)) ∧ aggAt 68 17 w' g8 = some (restC n (pad ys)) ∧ w'.cell? ⟨g6, 0, none⟩ = some (.int .i64 (n : Int)) ∧
      (∃ cs, Blk w' g4 78 cs ∧ cs.size = 3) ∧ Blk w' g6 68 (restC n (pad xs)) ∧ Blk w' g8 68 (restC n (pad ys)) ∧ Below w.heap.size w w')
    (first | assumption | exact walkedS_of ⟨_, hB47, rfl⟩ hB67 hB87 hBe7.drew | exact walkedS_store (walkedS_store (walkedS_store (by assumption) hne6 hne8 hge4 _ _) hne6 hne8 hge4 _ _) hne6 hne8 hge4 _ _)
    (first | (go_at_call_of 50 (Value.agg (restC n (pad xs))); refine (number_pad n xs hX.out _).mono ?_; rintro e w8 ⟨rfl, hb8⟩; have hS8 := walkedS_keep (by assumption) hb8) | (go_at_call_of 50 (Value.agg (restC n (pad ys))); refine (number_pad n ys hY.out _).mono ?_; rintro e w9 ⟨rfl, hb9⟩; have hS9 := walkedS_keep (by assumption) hb9; obtain ⟨v0, v1, v2, hB9, k0, k1, k2, f0, f1, f2⟩ := walkedS_cells hS9))
  go_wp2_with (fail)
  have hBf : Blk (((w9.setCell ⟨g4, 0, none⟩ (.int .i64 (n : Int))).setCell ⟨g4, 1, none⟩ (.int .i64 (numS xs : Nat))).setCell ⟨g4, 2, none⟩ (.int .i64 (numS ys : Nat))) g4 78 (walkC n (numS xs) (numS ys)) := ((hB9.set_ 0 _).set_ 1 _).set_ 2 _
  obtain ⟨_, _, _, _, _, _, hBeF⟩ := hS9
  exact bodyPost_ret (results_cell_tmp rfl _ _ g4 78 _ (0, 0) _ rfl hBf Tryd.underlying78 rfl (info_walk n _ _)) rfl ⟨rfl, ((hBeF.setCell hge4 _).setCell hge4 _).setCell hge4 _⟩

theorem both_ok {xs ys : List Int} (h : bothE xs ys = 0) : chk xs = 0 ∧ chk ys = 0 ∧ xs.length = ys.length := by
  unfold bothE at h
  by_cases h1 : chk xs = 0
  · by_cases h2 : chk ys = 0
    · by_cases h3 : xs.length = ys.length
      · exact ⟨h1, h2, h3⟩
      · simp [h1, h2, h3] at h
    · simp [h1, h2] at h
  · simp [h1] at h
theorem both_of {xs ys : List Int} (h1 : chk xs = 0) (h2 : chk ys = 0) (h3 : xs.length = ys.length) : bothE xs ys = 0 := by simp [bothE, h1, h2, h3]
theorem both_1 {xs ys : List Int} (h : chk xs ≠ 0) : bothE xs ys = chk xs := by simp [bothE, h]
theorem both_2 {xs ys : List Int} (h1 : chk xs = 0) (h : chk ys ≠ 0) : bothE xs ys = chk ys := by simp [bothE, h1, h]
theorem both_3 {xs ys : List Int} (h1 : chk xs = 0) (h2 : chk ys = 0) (h : xs.length ≠ ys.length) : bothE xs ys = 5 := by simp [bothE, h1, h2, h]
set_option maxRecDepth 100000 in
set_option maxHeartbeats 1000000 in
theorem walked_bad (A B : Option Addr) (n m c d : Nat) (xs ys : List Int) (w : World) (ha : RInts w w.heap.size A n xs) (hb : RInts w w.heap.size B m ys) (hn : n ≤ maxLen) (hm : m ≤ maxLen) (he : bothE xs ys ≠ 0) :
    Calls Tryd.prog 56 #[.slice A n c, .slice B m d] w fun e w' => e = .returned (.tuple #[.agg (walkC 0 0 0), .int .i64 (bothE xs ys)]) ∧ Below w.heap.size w w' := by
  have hE := Lib.hid he
  clear he
  by_cases hx : chk xs = 0
  · have hX := Lib.hid hx
    clear hx
    by_cases hy : chk ys = 0
    · have hY := Lib.hid hy
      clear hy
      have hnm : n ≠ m := by
        intro h
        exact hE.out (both_of hX.out hY.out (by rw [ha.len, hb.len, h]))
      have hP := Lib.hid (both_3 hX.out hY.out (by rw [ha.len, hb.len]; exact hnm))
      have hnb : ((n : Int) != (m : Int)) = true := by simp; omega
      go_enter Tryd.func56, Tryd.ntmps56
      go_wp2_with (first
        | (with_reducible show wpList _ _ _ (⟨some 4, .alloc 78, _, _, _, _⟩ :: _) _ _
           refine wpList_alloc_blk rfl 78 rfl _ zero_walk ?_
           intro w1 g4 hB4 hg1 hs1
           have hBe1 : Below w.heap.size w w1 := below_none (Below.refl _ _) hg1 (Nat.le_refl _)
           have hs14 := hs1
           clear hg1)
        | (go_at_call 49
           have _t := hs1
           refine (laid_ok A n c xs w1 ((ha.below hBe1).more hBe1.size) hn hX.out).mono ?_
           rintro e w2 ⟨rfl, hb2⟩
           have hB42 := hB4.callee hb2
           have hBe2 := hBe1.trans (hb2.mono hBe1.size)
           have hl4 := hB42.lt
           clear hb2 hB4 hs1)
        | (with_reducible show wpList _ _ _ (⟨some 6, .alloc 68, _, _, _, _⟩ :: _) _ _
           refine wpList_alloc_blk rfl 68 rfl _ zero_rest ?_
           intro w3 g6 hB6 hg3 hs3
           have hB43 := hB42.none_ hg3
           have hBe3 := below_none hBe2 hg3 hBe2.size
           clear hg3 hB42)
        | (with_reducible show wpList _ _ _ (⟨_, .store 68 (.tmp 6) _, _, _, _, _⟩ :: _) _ _
           refine wpList_store_blk rfl 68 _ _ rfl g6 (restC n (pad xs)) rfl rfl 68 (restC 0 (pad [])) hB6 (info_rest' n xs) (restC_sizes _ _ _ _) (restC_one _ _) ?_
           intro w4 hB64 hg4
           have hB44 := hB43.some_ hg4 (by omega)
           have hBe4 := below_some hBe3 hg4 hBe3.size (by have := hBe2.size; omega)
           have hl6 := hB64.lt
           clear hg4 hB43 hB6)
        | (go_at_call 49
           have _t := hB64
           refine (laid_ok B m d ys w4 ((hb.below hBe4).more hBe4.size) hm hY.out).mono ?_
           rintro e w5 ⟨rfl, hb5⟩
           have hB45 := hB44.callee hb5
           have hB65 := hB64.callee hb5
           have hBe5 := hBe4.trans (hb5.mono hBe4.size)
           have hl6' := hB65.lt
           clear hb5 hB44 hB64)
        | (with_reducible show wpList _ _ _ (⟨some 8, .alloc 68, _, _, _, _⟩ :: _) _ _
           refine wpList_alloc_blk rfl 68 rfl _ zero_rest ?_
           intro w6 g8 hB8 hg6 hs6
           have hB46 := hB45.none_ hg6
           have hB66 := hB65.none_ hg6
           have hBe6 := below_none hBe5 hg6 hBe5.size
           clear hg6 hB45 hB65)
        | (with_reducible show wpList _ _ _ (⟨_, .store 68 (.tmp 8) _, _, _, _, _⟩ :: _) _ _
           refine wpList_store_blk rfl 68 _ _ rfl g8 (restC m (pad ys)) rfl rfl 68 (restC 0 (pad [])) hB8 (info_rest' m ys) (restC_sizes _ _ _ _) (restC_one _ _) ?_
           intro w7 hB87 hg7
           have hB47 := hB46.some_ hg7 (by have := hB46.lt; have := hBe5.size; omega)
           have hB67 := hB66.some_ hg7 (by omega)
           have hBe7 := below_some hBe6 hg7 hBe6.size (by have := hBe5.size; omega)
           have hc6 : w7.cell? ⟨g6, 0, none⟩ = some (.int .i64 (n : Int)) := by rw [hB67.cell, restC_zero]
           have hc8 : w7.cell? ⟨g8, 0, none⟩ = some (.int .i64 ((m : Nat) : Int)) := by rw [hB87.cell, restC_zero]
           clear hg7 hB46 hB66 hB8)
        | (with_reducible show wpList _ _ _ (⟨_, .store 78 (.tmp 4) _, _, _, _, _⟩ :: _) _ _
           refine wpList_store_blk rfl 78 _ _ rfl g4 (walkC 0 0 0) rfl rfl 78 (walkC 0 0 0) hB47 (info_walk 0 0 0) rfl (walkC_one _ _ _) ?_
           intro w10 hB410 hg10
           have hBe10 := below_some hBe7 hg10 hBe7.size hs14
           clear hg10))
      refine bodyPost_ret (results_cell_tmp rfl _ _ g4 78 (walkC 0 0 0) (0, 0) _ rfl hB410 Tryd.underlying78 rfl (info_walk 0 0 0)) rfl ⟨by rw [hP.out]; rfl, hBe10⟩
    · have hY := Lib.hid hy
      clear hy
      have hP := Lib.hid (both_2 hX.out hY.out)
      have hnb : (chk ys != 0) = true := by simpa using hY.out
      go_enter Tryd.func56, Tryd.ntmps56
      go_wp2_with (first
        | (with_reducible show wpList _ _ _ (⟨some 4, .alloc 78, _, _, _, _⟩ :: _) _ _
           refine wpList_alloc_blk rfl 78 rfl _ zero_walk ?_
           intro w1 g4 hB4 hg1 hs1
           have hBe1 : Below w.heap.size w w1 := below_none (Below.refl _ _) hg1 (Nat.le_refl _)
           have hs14 := hs1
           clear hg1)
        | (go_at_call 49
           have _t := hs1
           refine (laid_ok A n c xs w1 ((ha.below hBe1).more hBe1.size) hn hX.out).mono ?_
           rintro e w2 ⟨rfl, hb2⟩
           have hB42 := hB4.callee hb2
           have hBe2 := hBe1.trans (hb2.mono hBe1.size)
           have hl4 := hB42.lt
           clear hb2 hB4 hs1)
        | (with_reducible show wpList _ _ _ (⟨some 6, .alloc 68, _, _, _, _⟩ :: _) _ _
           refine wpList_alloc_blk rfl 68 rfl _ zero_rest ?_
           intro w3 g6 hB6 hg3 hs3
           have hB43 := hB42.none_ hg3
           have hBe3 := below_none hBe2 hg3 hBe2.size
           clear hg3 hB42)
        | (with_reducible show wpList _ _ _ (⟨_, .store 68 (.tmp 6) _, _, _, _, _⟩ :: _) _ _
           refine wpList_store_blk rfl 68 _ _ rfl g6 (restC n (pad xs)) rfl rfl 68 (restC 0 (pad [])) hB6 (info_rest' n xs) (restC_sizes _ _ _ _) (restC_one _ _) ?_
           intro w4 hB64 hg4
           have hB44 := hB43.some_ hg4 (by omega)
           have hBe4 := below_some hBe3 hg4 hBe3.size (by have := hBe2.size; omega)
           have hl6 := hB64.lt
           clear hg4 hB43 hB6)
        | (go_at_call 49
           have _t := hB64
           refine (laid_bad B m d ys w4 ((hb.below hBe4).more hBe4.size) hm hY.out).mono ?_
           rintro e w5 ⟨rfl, hb5⟩
           have hB45 := hB44.callee hb5
           have hB65 := hB64.callee hb5
           have hBe5 := hBe4.trans (hb5.mono hBe4.size)
           have hl6' := hB65.lt
           clear hb5 hB44 hB64)
        | (with_reducible show wpList _ _ _ (⟨some 8, .alloc 68, _, _, _, _⟩ :: _) _ _
           refine wpList_alloc_blk rfl 68 rfl _ zero_rest ?_
           intro w6 g8 hB8 hg6 hs6
           have hB46 := hB45.none_ hg6
           have hB66 := hB65.none_ hg6
           have hBe6 := below_none hBe5 hg6 hBe5.size
           clear hg6 hB45 hB65)
        | (with_reducible show wpList _ _ _ (⟨_, .store 68 (.tmp 8) _, _, _, _, _⟩ :: _) _ _
           refine wpList_store_blk rfl 68 _ _ rfl g8 (restC 0 (pad [])) rfl rfl 68 (restC 0 (pad [])) hB8 (info_rest' 0 []) (restC_sizes _ _ _ _) (restC_one _ _) ?_
           intro w7 hB87 hg7
           have hB47 := hB46.some_ hg7 (by have := hB46.lt; have := hBe5.size; omega)
           have hB67 := hB66.some_ hg7 (by omega)
           have hBe7 := below_some hBe6 hg7 hBe6.size (by have := hBe5.size; omega)
           have hc6 : w7.cell? ⟨g6, 0, none⟩ = some (.int .i64 (n : Int)) := by rw [hB67.cell, restC_zero]
           have hc8 : w7.cell? ⟨g8, 0, none⟩ = some (.int .i64 ((0 : Nat) : Int)) := by rw [hB87.cell, restC_zero]
           clear hg7 hB46 hB66 hB8)
        | (with_reducible show wpList _ _ _ (⟨_, .store 78 (.tmp 4) _, _, _, _, _⟩ :: _) _ _
           refine wpList_store_blk rfl 78 _ _ rfl g4 (walkC 0 0 0) rfl rfl 78 (walkC 0 0 0) hB47 (info_walk 0 0 0) rfl (walkC_one _ _ _) ?_
           intro w10 hB410 hg10
           have hBe10 := below_some hBe7 hg10 hBe7.size hs14
           clear hg10))
      refine bodyPost_ret (results_cell_tmp rfl _ _ g4 78 (walkC 0 0 0) (0, 0) _ rfl hB410 Tryd.underlying78 rfl (info_walk 0 0 0)) rfl ⟨by rw [hP.out]; rfl, hBe10⟩
  · have hX := Lib.hid hx
    clear hx
    have hP := Lib.hid (both_1 (ys := ys) hX.out)
    have hnb : (chk xs != 0) = true := by simpa using hX.out
    go_enter Tryd.func56, Tryd.ntmps56
    go_wp2_with (first
      | (with_reducible show wpList _ _ _ (⟨some 4, .alloc 78, _, _, _, _⟩ :: _) _ _
         refine wpList_alloc_blk rfl 78 rfl _ zero_walk ?_
         intro w1 g4 hB4 hg1 hs1
         have hBe1 : Below w.heap.size w w1 := below_none (Below.refl _ _) hg1 (Nat.le_refl _)
         have hs14 := hs1
         clear hg1)
      | (go_at_call 49
         have _t := hs1
         refine (laid_bad A n c xs w1 ((ha.below hBe1).more hBe1.size) hn hX.out).mono ?_
         rintro e w2 ⟨rfl, hb2⟩
         have hB42 := hB4.callee hb2
         have hBe2 := hBe1.trans (hb2.mono hBe1.size)
         have hl4 := hB42.lt
         clear hb2 hB4 hs1)
      | (with_reducible show wpList _ _ _ (⟨some 6, .alloc 68, _, _, _, _⟩ :: _) _ _
         refine wpList_alloc_blk rfl 68 rfl _ zero_rest ?_
         intro w3 g6 hB6 hg3 hs3
         have hB43 := hB42.none_ hg3
         have hBe3 := below_none hBe2 hg3 hBe2.size
         clear hg3 hB42)
      | (with_reducible show wpList _ _ _ (⟨_, .store 68 (.tmp 6) _, _, _, _, _⟩ :: _) _ _
         refine wpList_store_blk rfl 68 _ _ rfl g6 (restC 0 (pad [])) rfl rfl 68 (restC 0 (pad [])) hB6 (info_rest' 0 []) (restC_sizes _ _ _ _) (restC_one _ _) ?_
         intro w4 hB64 hg4
         have hB44 := hB43.some_ hg4 (by omega)
         have hBe4 := below_some hBe3 hg4 hBe3.size (by have := hBe2.size; omega)
         have hl6 := hB64.lt
         clear hg4 hB43 hB6)
      | (with_reducible show wpList _ _ _ (⟨_, .store 78 (.tmp 4) _, _, _, _, _⟩ :: _) _ _
         refine wpList_store_blk rfl 78 _ _ rfl g4 (walkC 0 0 0) rfl rfl 78 (walkC 0 0 0) hB44 (info_walk 0 0 0) rfl (walkC_one _ _ _) ?_
         intro w10 hB410 hg10
         have hBe10 := below_some hBe4 hg10 hBe4.size hs14
         clear hg10))
    refine bodyPost_ret (results_cell_tmp rfl _ _ g4 78 (walkC 0 0 0) (0, 0) _ rfl hB410 Tryd.underlying78 rfl (info_walk 0 0 0)) rfl ⟨by rw [hP.out]; rfl, hBe10⟩
end Go.Proofs.YtjhcemhnnkcjaaaDoor
