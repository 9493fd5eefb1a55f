/- The reference's Turns. -/
import Derived.Test.YtjhcemhnnkcjaaaDoorRefOpening
import Derived.Test.YtjhcemhnnkcjaaaDoorTurns
import Derived.Deep.CutRange
import Derived.Deep.RegionWith
namespace Go.Proofs.YtjhcemhnnkcjaaaDoor
open Go.RowKit
theorem take_next {L : List Int} {i : Nat} {x : Int} (h : L[i]? = some x) : L.take (i + 1) = L.take i ++ [x] := by rw [List.take_add_one, h]; rfl
set_option maxRecDepth 100000 in
set_option maxHeartbeats 1000000 in
theorem refTurns_ok (A B : Option Addr) (n m c d : Nat) (xs ys : List Int) (w : World) (ha : RInts w w.heap.size A n xs) (hb : RInts w w.heap.size B m ys) (hn : n ≤ maxLen) (hm : m ≤ maxLen) (hx : pairE xs ys = 0) :
    Calls Tryd.prog 38 #[.agg (pairC A n c B m d)] w (RetL (turnsGo (pairR xs.length ys.length) (fewN (numS xs) (numS ys)) 0 (pairR (numS xs) (numS ys))) 0 w) := by
  have hk := pairE_ok hx
  have hX := Lib.hid hx
  have h6 : n ≤ 6 := by rw [← ha.len]; exact hk.2.2.1
  have h6' : m ≤ 6 := by rw [← hb.len]; exact hk.2.2.2
  have hn1 : 1 ≤ n := by have := (chk_zero hk.1).1; rw [ha.len] at this; omega
  have hm1 : 1 ≤ m := by have := (chk_zero hk.2.1).1; rw [hb.len] at this; omega
  have hBx := Lib.hid (bin_of_all (chk_zero hk.1).2.2)
  have hBy := Lib.hid (bin_of_all (chk_zero hk.2.1).2.2)
  have hF1 := (few_first (numS xs) (numS ys)).1
  have hFs := few_small (numS_6 ha.len h6) (numS_6 hb.len h6')
  have hat := turnsGo_at (pairR xs.length ys.length) (fewN (numS xs) (numS ys)) 0 (by omega) (pairR (numS xs) (numS ys))
  obtain ⟨F, hF⟩ : ∃ F, F = fewN (numS xs) (numS ys) := ⟨_, rfl⟩
  rw [← hF] at hF1 hFs hat ⊢
  have hFF := Lib.hid hF
  obtain ⟨L, hLe⟩ : ∃ L, L = turnsGo (pairR xs.length ys.length) F 0 (pairR (numS xs) (numS ys)) := ⟨_, rfl⟩
  have hLL : Hid (L.length = F) := Lib.hid (by rw [hLe, turnsGo_length])
  rw [← hLe] at hat ⊢
  have hd1 : ((F : Int) + 1).tdiv 2 = (((F + 1) / 2 : Nat) : Int) := by rw [Int.tdiv_eq_ediv_of_nonneg (by omega)]; omega
  have hd2 : (F : Int).tdiv 2 = ((F / 2 : Nat) : Int) := by rw [Int.tdiv_eq_ediv_of_nonneg (by omega)]; omega
  obtain ⟨p, hp⟩ : ∃ p, p = (F + 1) / 2 := ⟨_, rfl⟩
  obtain ⟨q, hq⟩ : ∃ q, q = F / 2 := ⟨_, rfl⟩
  rw [← hp] at hd1 hF1 hat
  rw [← hq] at hd2 hF1 hat
  rw [Bool.and_eq_true] at hF1
  have hO1 := Lib.hid hF1.1
  have hO2 := Lib.hid hF1.2
  have hAT : Hid (∀ i, L[i]? = if i % 2 = 0 then (openGo n p (numS xs))[i / 2]? else (openGo m q (numS ys))[i / 2]?) := Lib.hid (fun i => by
    rw [hat i]
    simp only [pairR, if_true, Nat.sub_zero, if_neg (show ¬ (1 : Nat) = 0 by omega), ha.len, hb.len])
  have hp9 : p ≤ 200 := by omega
  have hq9 : q ≤ 200 := by omega
  have hw1 : IntKind.i64.wrap ((F : Int) + 1) = (F : Int) + 1 := by rw [IntWalk.i64_in _ (by omega)]
  have hw2 : IntKind.i64.wrap (p : Int) = p := by rw [IntWalk.i64_in _ (by omega)]
  have hw3 : IntKind.i64.wrap (q : Int) = q := by rw [IntWalk.i64_in _ (by omega)]
  have hPQ := Lib.hid (show p = (F + 1) / 2 ∧ q = F / 2 from ⟨hp, hq⟩)
  have HW := Lib.hid (show _ ∧ _ ∧ _ from ⟨hw1, hw2, hw3⟩)
  clear hk hx hF1 hF hat hLe hp hq hw1 hw2 hw3
  go_enter Tryd.func38, Tryd.ntmps38
  go_upto_region 5 with (first
    | (with_reducible show wpList _ _ _ (⟨some 1, .box 41 _, _, _, _, _⟩ :: _) _ _
       refine wpList_box_blk rfl 41 _ rfl (pairC A n c B m d) rfl ?_
       intro w0 g1 hP1 hg0 hs0
       have hBe0 : Below w.heap.size w w0 := below_none (Below.refl _ _) hg0 (Nat.le_refl _)
       clear hg0 hs0)
    | (with_reducible show wpList _ _ _ (⟨some 10, .load 41 _, _, _, _, _⟩ :: _) _ _
       refine wpList_load_blk rfl 41 _ rfl g1 rfl 41 _ _ hP1 Tryd.underlying41 rfl (info_pairR _ _ _ _ _ _) ?_)
    | (with_reducible show wpList _ _ _ (⟨some 15, .load 41 _, _, _, _, _⟩ :: _) _ _
       refine wpList_load_blk rfl 41 _ rfl g1 rfl 41 _ _ hP2 Tryd.underlying41 rfl (info_pairR _ _ _ _ _ _) ?_)
    | (go_at_call 66
       refine (refPair_any A B n m c d xs ys w0 ((ha.below hBe0).more hBe0.size) ((hb.below hBe0).more hBe0.size) hn hm).mono ?_
       rintro e w1 ⟨rfl, hb1⟩
       have hBe1 := hBe0.trans (hb1.mono hBe0.size)
       have hP2 := hP1.callee hb1
       rw [hX.out]
       clear hb1 hP1)
    | (go_at_call 67
       refine (refTogether_any A B n m c d xs ys w1 ((ha.below hBe1).more hBe1.size) ((hb.below hBe1).more hBe1.size) h6 h6' hBx.out hBy.out).mono ?_
       rintro e w2 ⟨rfl, hb2⟩
       rw [← hFF.out]
       have hBe2 := hBe1.trans (hb2.mono hBe1.size)
       have hP3 := hP2.callee hb2
       obtain ⟨c0, c1⟩ := pairC_0 hP3
       have ha2 := (ha.below hBe2).more hBe2.size
       have hb2' := (hb.below hBe2).more hBe2.size
       clear hb2 hP2 hBe1 hBe0))
  go_cut [6, 7] from 8 (fun u v wx => ∃ (A1 A2 : Option Addr) (c1 c2 : Nat), u = .slice A1 p c1 ∧ v = .slice A2 q c2 ∧ RInts wx wx.heap.size A1 p (openGo n p (numS xs)) ∧ RInts wx wx.heap.size A2 q (openGo m q (numS ys)) ∧ Below w.heap.size w wx)
  case first =>
    obtain ⟨hw1, hw2, hw3⟩ := HW.out
    have _t := hn
    go_region_with (first
      | (go_at_call 69
         clear _t
         refine (refOpening_any A n c p xs _ rfl w2.drew ha2.drew (by omega) hn1 hBx.out hp9 hO1.out).mono ?_
         rintro e w3 ⟨A3, c3, rfl, hr3, hb3⟩
         have hP4 := hP3.drew.callee hb3
         obtain ⟨c4, c5⟩ := pairC_0 hP4
         have hBe3 := hBe2.drew.trans (hb3.mono hBe2.drew.size)
         have hb3' := (hb2'.drew.below hb3).more hb3.size
         clear hb3)
      | (go_at_call 69
         refine (refOpening_any B m d q ys _ rfl _ hb3' (by omega) hm1 hBy.out hq9 hO2.out).mono ?_
         rintro e w4 ⟨A4, c4, rfl, hr4, hb4⟩
         have hr34 := (hr3.below hb4).more hb4.size
         have hBe4 := hBe3.trans (hb4.mono hBe3.size)))
    all_goals
      go_wp2_with (fail)
      go_meet
      exact ⟨_, _, _, _, rfl, rfl, hr34, hr4, hBe4⟩
  case rest =>
    obtain ⟨A1, A2, e1, e2, rfl, rfl, hr1, hr2, hBw⟩ := hcut
    clear hP3 c0 c1 ha2 hb2' hBe2 hd1 hd2 HW hO1 hO2
    go_wp2_with (fail)
    go_loopw [8, 9] (fun v i wr => ∃ k : Nat, k ≤ F ∧ i = .int .i64 k ∧ OwnI wr wc.heap.size v (L.take k) ∧ Below wc.heap.size wc wr) (fun _ i _ => F - (intOf i).toNat)
    case atStart => exact ⟨0, by omega, rfl, OwnI.nil _ _, Below.refl _ _⟩
    case round =>
      obtain ⟨k, hk, rfl, hown, hbe⟩ := hrel
      have hl : (L.take k).length = k := by rw [List.length_take, hLL.out]; omega
      by_cases hlt : k < F
      · have hdv : (k : Int).tdiv 2 = ((k / 2 : Nat) : Int) := by rw [Int.tdiv_eq_ediv_of_nonneg (by omega)]; omega
        have hLk := hAT.out k
        rcases Nat.mod_two_eq_zero_or_one k with e | e
        · have hmd : (k : Int).tmod 2 = 0 := by rw [Int.tmod_eq_emod_of_nonneg (by omega)]; omega
          rw [if_pos e] at hLk
          have hh : k / 2 < p := by have := hPQ.out.1; omega
          obtain ⟨h, hhe⟩ : ∃ h, h = k / 2 := ⟨_, rfl⟩
          rw [← hhe] at hh hdv hLk
          obtain ⟨ad, x, hA1, hab, hcell, hx⟩ := (hr1.below hbe).at_ hh
          have hT : Hid (L.take (k + 1) = L.take k ++ [x]) := Lib.hid (take_next (hLk.trans hx.out))
          subst hA1
          clear hLk e hhe
          go_wp2_with (first
            | (at_builtin
               refine wpList_push rfl _ _ rfl rfl (hown.none_ (World.grownBy_alloc _ _ none)) _ 1 x rfl (Blk.new _ _ _) (by omega) (by simp; have := hbe.size; omega) ?_
               intro g5 cap5 w5 hown5 hg5 hat5 hlt5))
          go_roundw
          case rel => exact ⟨k + 1, by omega, by go_num, by rw [hl] at hown5; rw [hT.out]; exact hown5, (hbe.alloc hbe.size _).grown hg5 (by simp; have := hbe.size; omega) (fun j hj => hown.ge hj)⟩
          case measure => simp [intOf]; omega
        · have hmd : (k : Int).tmod 2 = 1 := by rw [Int.tmod_eq_emod_of_nonneg (by omega)]; omega
          rw [if_neg (by omega)] at hLk
          have hh : k / 2 < q := by have := hPQ.out.2; omega
          obtain ⟨h, hhe⟩ : ∃ h, h = k / 2 := ⟨_, rfl⟩
          rw [← hhe] at hh hdv hLk
          obtain ⟨ad, x, hA2, hab, hcell, hx⟩ := (hr2.below hbe).at_ hh
          have hT : Hid (L.take (k + 1) = L.take k ++ [x]) := Lib.hid (take_next (hLk.trans hx.out))
          subst hA2
          clear hLk e hhe
          go_wp2_with (first
            | (at_builtin
               refine wpList_push rfl _ _ rfl rfl (hown.none_ (World.grownBy_alloc _ _ none)) _ 1 x rfl (Blk.new _ _ _) (by omega) (by simp; have := hbe.size; omega) ?_
               intro g5 cap5 w5 hown5 hg5 hat5 hlt5))
          go_roundw
          case rel => exact ⟨k + 1, by omega, by go_num, by rw [hl] at hown5; rw [hT.out]; exact hown5, (hbe.alloc hbe.size _).grown hg5 (by simp; have := hbe.size; omega) (fun j hj => hown.ge hj)⟩
          case measure => simp [intOf]; omega
      · obtain rfl : k = F := by omega
        have hT : L.take k = L := List.take_of_length_le (by rw [hLL.out]; exact Nat.le_refl _)
        rw [hT] at hown
        go_wp2_with (fail)
        go_ret2
        exact RetL_own hown (by rw [hLL.out]; omega) (hBw.trans (hbe.mono hBw.size))
set_option maxHeartbeats 400000 in
theorem refTurns_any (A B : Option Addr) (n m c d : Nat) (xs ys : List Int) (w : World) (ha : RInts w w.heap.size A n xs) (hb : RInts w w.heap.size B m ys) (hn : n ≤ maxLen) (hm : m ≤ maxLen) :
    Calls Tryd.prog 38 #[.agg (pairC A n c B m d)] w (RetL (turnsL xs ys) (pairE xs ys) w) := by
  by_cases hx : pairE xs ys = 0
  · rw [turnsL, if_pos hx, hx]
    exact refTurns_ok A B n m c d xs ys w ha hb hn hm hx
  · rw [turnsL, if_neg hx]
    have hb0 : (pairE xs ys != 0) = true := by simpa using hx
    clear hx
    go_enter Tryd.func38, Tryd.ntmps38
    go_wp2_with (first
      | (with_reducible show wpList _ _ _ (⟨some 1, .box 41 _, _, _, _, _⟩ :: _) _ _
         refine wpList_box_blk rfl 41 _ rfl (pairC A n c B m d) rfl ?_
         intro w0 g1 hP1 hg0 hs0
         have hBe0 : Below w.heap.size w w0 := below_none (Below.refl _ _) hg0 (Nat.le_refl _)
         clear hg0)
      | (with_reducible show wpList _ _ _ (⟨some 10, .load 41 _, _, _, _, _⟩ :: _) _ _
         refine wpList_load_blk rfl 41 _ rfl g1 rfl 41 _ _ hP1 Tryd.underlying41 rfl (info_pairR _ _ _ _ _ _) ?_)
      | (go_at_call 66
         refine (refPair_any A B n m c d xs ys w0 ((ha.below hBe0).more hBe0.size) ((hb.below hBe0).more hBe0.size) hn hm).mono ?_
         rintro e w1 ⟨rfl, hb1⟩
         have hBe1 := hBe0.trans (hb1.mono hBe0.size)))
    go_ret2
    exact RetL_nil hBe1
end Go.Proofs.YtjhcemhnnkcjaaaDoor
