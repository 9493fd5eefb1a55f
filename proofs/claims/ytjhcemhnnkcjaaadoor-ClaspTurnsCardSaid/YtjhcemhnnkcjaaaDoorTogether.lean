/- Together of the program. -/
import Derived.Test.YtjhcemhnnkcjaaaDoorOpened
import Derived.Test.YtjhcemhnnkcjaaaDoorOpenedB
import Derived.Test.YtjhcemhnnkcjaaaDoorApi2
namespace Go.Proofs.YtjhcemhnnkcjaaaDoor
open Go.RowKit
def fewN (a b : Nat) : Nat := if a % 2 = b % 2 then 2 * max a b else 2 * max (a - 1) b + 1
set_option maxRecDepth 100000 in
set_option maxHeartbeats 400000 in
theorem few_any (n m : Int) (a b : Nat) (ha : a < 65536) (hb : b < 65536) (w : World) :
    Calls Tryd.prog 65 #[.agg (coupC n m a b)] w fun e w' => e = .returned (.int .i64 (fewN a b : Nat)) ∧ Below w.heap.size w w' := by
  unfold coupC
  have h1 : (a : Int).tmod 2 = ((a % 2 : Nat) : Int) := by rw [Int.tmod_eq_emod_of_nonneg (by omega)]; omega
  have h2 : (b : Int).tmod 2 = ((b % 2 : Nat) : Int) := by rw [Int.tmod_eq_emod_of_nonneg (by omega)]; omega
  by_cases hp : a % 2 = b % 2
  · obtain ⟨p, hq⟩ : ∃ p, p = b % 2 := ⟨_, rfl⟩
    rw [hp, ← hq] at h1
    rw [← hq] at h2
    have hf : fewN a b = 2 * max a b := by rw [fewN, if_pos hp]
    rw [hf]
    clear hp hq hf
    by_cases hm : a < b
    · rw [Nat.max_eq_right (by omega)]
      go_enter Tryd.func65, Tryd.ntmps65
      go_wp2_with (fail)
      go_quiet (fail)
      go_wp2_with (fail)
      go_ret
      exact ⟨by first | rfl | exact ret_int (by omega), below_drewN (below_none (Below.refl _ _) (World.grownBy_alloc w _ none) (Nat.le_refl _)) _⟩
    · rw [Nat.max_eq_left (by omega)]
      go_enter Tryd.func65, Tryd.ntmps65
      go_wp2_with (fail)
      go_quiet (fail)
      go_wp2_with (fail)
      go_ret
      exact ⟨by first | rfl | exact ret_int (by omega), below_drewN (below_none (Below.refl _ _) (World.grownBy_alloc w _ none) (Nat.le_refl _)) _⟩
  · have hb0 : (((a % 2 : Nat) : Int) == ((b % 2 : Nat) : Int)) = false := by simp; omega
    obtain ⟨p, hq⟩ : ∃ p, p = b % 2 := ⟨_, rfl⟩
    obtain ⟨q, hr⟩ : ∃ q, q = a % 2 := ⟨_, rfl⟩
    have hpq : p ≠ q := by omega
    rw [← hr] at h1
    rw [← hq] at h2
    have hf : fewN a b = 2 * max (a - 1) b + 1 := by rw [fewN, if_neg hp]
    rw [hf]
    clear hp hb0
    have hqp : ¬ (q : Int) = (p : Int) := by omega
    by_cases hm : a - 1 < b
    · have hm1 : (a : Int) - 1 < b := by omega
      rw [Nat.max_eq_right (by omega)]
      clear hm hf hq hr
      go_enter Tryd.func65, Tryd.ntmps65
      go_wp2_with (fail)
      go_quiet (fail)
      go_wp2_with (fail)
      go_ret
      exact ⟨by first | rfl | exact ret_int (by omega), below_drewN (below_none (Below.refl _ _) (World.grownBy_alloc w _ none) (Nat.le_refl _)) _⟩
    · have hm1 : ¬ ((a : Int) - 1 < b) := by omega
      have hm2 : ((a - 1 : Nat) : Int) = (a : Int) - 1 := by omega
      rw [Nat.max_eq_left (by omega)]
      clear hm hf hq hr
      go_enter Tryd.func65, Tryd.ntmps65
      go_wp2_with (fail)
      go_quiet (fail)
      go_wp2_with (fail)
      go_ret
      exact ⟨by first | rfl | exact ret_int (by omega), below_drewN (below_none (Below.refl _ _) (World.grownBy_alloc w _ none) (Nat.le_refl _)) _⟩
def togN (xs ys : List Int) : Nat := if pairE xs ys = 0 then fewN (numS xs) (numS ys) else 0
theorem info_pair (A : Option Addr) (n c : Nat) (B : Option Addr) (m d : Nat) : (Tryd.prog.info? 40).map (·.size) = some (pairC A n c B m d).size := by
  show _ = some 2; kernel_rfl
theorem opened_any (A B : Option Addr) (n m c d : Nat) (xs ys : List Int) (w : World) (ha : RInts w w.heap.size A n xs) (hb : RInts w w.heap.size B m ys) (hn : n ≤ maxLen) (hm : m ≤ maxLen) :
    Calls Tryd.prog 64 #[.agg (pairC A n c B m d)] w fun e w' => ∃ r s a b : Nat, e = .returned (.tuple #[.agg (coupC r s a b), .int .i64 (pairE xs ys)]) ∧ (pairE xs ys = 0 → r = n ∧ s = m ∧ a = numS xs ∧ b = numS ys) ∧ Below w.heap.size w w' := by
  by_cases h : pairE xs ys = 0
  · obtain ⟨h1, h2, h3, h4⟩ := pairE_ok h
    exact (opened_ok A B n m c d xs ys w ha hb hn hm h1 h2 (by rw [← ha.len]; exact h3) (by rw [← hb.len]; exact h4)).mono fun e w' ⟨he, hb⟩ => ⟨n, m, numS xs, numS ys, by rw [he, h], fun _ => ⟨rfl, rfl, rfl, rfl⟩, hb⟩
  · exact (opened_bad A B n m c d xs ys w ha hb hn hm h).mono fun e w' ⟨he, hb⟩ => ⟨0, 0, 0, 0, he, fun h' => absurd h' h, hb⟩
theorem numS_16 {xs : List Int} (h : xs.length ≤ 6) : numS xs < 65536 := Nat.lt_of_lt_of_le (numS_lt xs) (pow16 (by omega))
set_option maxHeartbeats 400000 in
theorem Together_any (A B : Option Addr) (n m c d : Nat) (xs ys : List Int) (w : World) (ha : RInts w w.heap.size A n xs) (hb : RInts w w.heap.size B m ys) (hn : n ≤ maxLen) (hm : m ≤ maxLen) :
    Calls Tryd.prog 35 #[.agg (pairC A n c B m d)] w (RetI (togN xs ys : Nat) (pairE xs ys) w) := by
  by_cases hx : pairE xs ys = 0
  · have hX := Lib.hid hx
    have hk := pairE_ok hx
    have hna := numS_16 hk.2.2.1
    have hnb := numS_16 hk.2.2.2
    have hTg : togN xs ys = fewN (numS xs) (numS ys) := by rw [togN, if_pos hx]
    rw [hTg]
    have hb0 : (pairE xs ys != 0) = false := by simpa using hx
    clear hx hk hTg
    go_enter Tryd.func35, Tryd.ntmps35
    go_wp2_with (first
      | (with_reducible show wpList _ _ _ (⟨some 1, .box 40 _, _, _, _, _⟩ :: _) _ _
         refine wpList_box_blk rfl 40 _ rfl (pairC A n c B m d) rfl ?_
         intro w0 g1 hP1 hg0 hs0
         have hBe0 : Below w.heap.size w w0 := below_none (Below.refl _ _) hg0 (Nat.le_refl _)
         clear hg0)
      | (with_reducible show wpList _ _ _ (⟨_, .load 40 _, _, _, _, _⟩ :: _) _ _
         refine wpList_load_blk rfl 40 _ rfl g1 rfl 40 _ _ hP1 Tryd.underlying40 rfl (info_pair _ _ _ _ _ _) ?_)
      | (go_at_call 64
         refine (opened_any A B n m c d xs ys w0 ((ha.below hBe0).more hBe0.size) ((hb.below hBe0).more hBe0.size) hn hm).mono ?_
         rintro e w1 ⟨r, s, a, b, rfl, hc, hb1⟩
         obtain ⟨rfl, rfl, rfl, rfl⟩ := hc hX.out
         have hBe1 := hBe0.trans (hb1.mono hBe0.size)
         clear hb1 hc)
      | (with_reducible show wpList _ _ _ (⟨_, .alloc 88, _, _, _, _⟩ :: _) _ _
         refine wpList_alloc_blk rfl 88 rfl _ zero_couple ?_
         intro w2 g2 hB2 hg2 hs2
         have hBe2 := below_none hBe1 hg2 hBe1.size)
      | (with_reducible show wpList _ _ _ (⟨_, .store 88 _ _, _, _, _, _⟩ :: _) _ _
         refine wpList_store_blk rfl 88 _ _ rfl g2 (coupC r s (numS xs) (numS ys)) rfl rfl 88 (coupC 0 0 0 0) hB2 (info_coup _ _ _ _) rfl (coupC_one _ _ _ _) ?_
         intro w3 hB3 hg3
         have hBe3 := below_some hBe2 hg3 hBe2.size (by have := hBe1.size; omega))
      | (with_reducible show wpList _ _ _ (⟨_, .load 88 _, _, _, _, _⟩ :: _) _ _
         refine wpList_load_blk rfl 88 _ rfl g2 rfl 88 _ _ hB3 Tryd.underlying88 rfl (info_coup _ _ _ _) ?_)
      | (go_at_call 65
         refine (few_any _ _ _ _ hna hnb _).mono ?_
         rintro e w4 ⟨rfl, hb4⟩
         have hBe4 := hBe3.trans (hb4.mono hBe3.size)))
    go_ret2
    exact ⟨by rw [hX.out]; rfl, hBe4⟩
  · have hX := Lib.hid hx
    have hTg : togN xs ys = 0 := by rw [togN, if_neg hx]
    rw [hTg]
    have hb0 : (pairE xs ys != 0) = true := by simpa using hx
    clear hx hTg
    go_enter Tryd.func35, Tryd.ntmps35
    go_wp2_with (first
      | (with_reducible show wpList _ _ _ (⟨some 1, .box 40 _, _, _, _, _⟩ :: _) _ _
         refine wpList_box_blk rfl 40 _ rfl (pairC A n c B m d) rfl ?_
         intro w0 g1 hP1 hg0 hs0
         have hBe0 : Below w.heap.size w w0 := below_none (Below.refl _ _) hg0 (Nat.le_refl _)
         clear hg0)
      | (with_reducible show wpList _ _ _ (⟨_, .load 40 _, _, _, _, _⟩ :: _) _ _
         refine wpList_load_blk rfl 40 _ rfl g1 rfl 40 _ _ hP1 Tryd.underlying40 rfl (info_pair _ _ _ _ _ _) ?_)
      | (go_at_call 64
         refine (opened_any A B n m c d xs ys w0 ((ha.below hBe0).more hBe0.size) ((hb.below hBe0).more hBe0.size) hn hm).mono ?_
         rintro e w1 ⟨r, s, a, b, rfl, hc, hb1⟩
         have hBe1 := hBe0.trans (hb1.mono hBe0.size)
         clear hb1 hc)
      | (with_reducible show wpList _ _ _ (⟨_, .alloc 88, _, _, _, _⟩ :: _) _ _
         refine wpList_alloc_blk rfl 88 rfl _ zero_couple ?_
         intro w2 g2 hB2 hg2 hs2
         have hBe2 := below_none hBe1 hg2 hBe1.size)
      | (with_reducible show wpList _ _ _ (⟨_, .store 88 _ _, _, _, _, _⟩ :: _) _ _
         refine wpList_store_blk rfl 88 _ _ rfl g2 (coupC r s a b) rfl rfl 88 (coupC 0 0 0 0) hB2 (info_coup _ _ _ _) rfl (coupC_one _ _ _ _) ?_
         intro w3 hB3 hg3
         have hBe3 := below_some hBe2 hg3 hBe2.size (by have := hBe1.size; omega)))
    go_ret2
    exact ⟨rfl, hBe3⟩
end Go.Proofs.YtjhcemhnnkcjaaaDoor
