/- The reference's Number, Distance, Next, At, Position. -/
import Derived.Test.YtjhcemhnnkcjaaaDoorRefNext
import Derived.Test.YtjhcemhnnkcjaaaDoorApi2
namespace Go.Proofs.YtjhcemhnnkcjaaaDoor
open Go.RowKit
theorem both_pre {A B : Option Addr} {n m : Nat} {xs ys : List Int} {w : World} {BL : Nat} (ha : RInts w BL A n xs) (hb : RInts w BL B m ys) (he : bothE xs ys = 0) :
    n = m ∧ bin xs ∧ bin ys ∧ numS xs < 65536 ∧ numS ys < 65536 ∧ n ≤ 16 ∧ n ≠ 0 := by
  obtain ⟨h1, hx, hy, l1, l2, l3, l4, l5⟩ := walked_pre ha hb he
  exact ⟨h1, bin_of_all (chk_zero hx).2.2, bin_of_all (chk_zero hy).2.2, by omega, by omega, l4, l5⟩
set_option maxHeartbeats 400000 in
theorem refNumberApi_any (A : Option Addr) (n c : Nat) (xs : List Int) (w : World) (ha : RInts w w.heap.size A n xs) (hn : n ≤ maxLen) :
    Calls Tryd.prog 17 #[.slice A n c] w (RetI (if chk xs = 0 then (numS xs : Int) else 0) (chk xs) w) := by
  by_cases hx : chk xs = 0
  · have hz := chk_zero hx
    rw [ha.len] at hz
    have h16 := hz.2.1
    have hB := Lib.hid (bin_of_all hz.2.2)
    have hX := Lib.hid hx
    rw [if_pos hx, hx]
    clear hx hz
    go_enter Tryd.func17, Tryd.ntmps17
    go_wp2_with (first
      | (go_at_call 47
         refine (refCheck_any A n c xs w _ ha hn).mono ?_
         rintro e w1 ⟨rfl, q1, rfl⟩
         rw [hX.out])
      | (go_at_call 51
         refine (refNumber_any A n c xs _ _ (ha.drewN q1) h16 hB.out).mono ?_
         rintro e w2 ⟨rfl, rfl⟩))
    go_ret2
    exact ⟨rfl, below_drewN (Below.refl _ _) q1⟩
  · have hb0 : (chk xs != 0) = true := by simpa using hx
    rw [if_neg hx]
    clear hx
    go_enter Tryd.func17, Tryd.ntmps17
    go_wp2_with (first
      | (go_at_call 47
         refine (refCheck_any A n c xs w _ ha hn).mono ?_
         rintro e w1 ⟨rfl, q1, rfl⟩))
    go_ret2
    exact ⟨rfl, below_drewN (Below.refl _ _) q1⟩
set_option maxHeartbeats 400000 in
theorem refDistanceApi_any (A B : Option Addr) (n m c d : Nat) (xs ys : List Int) (w : World) (ha : RInts w w.heap.size A n xs) (hb : RInts w w.heap.size B m ys) (hn : n ≤ maxLen) (hm : m ≤ maxLen) :
    Calls Tryd.prog 24 #[.slice A n c, .slice B m d] w (RetI (if bothE xs ys = 0 then (distS (numS xs) (numS ys) : Int) else 0) (bothE xs ys) w) := by
  by_cases he : bothE xs ys = 0
  · obtain ⟨rfl, hx, hy, k1, k2, h16, _⟩ := both_pre ha hb he
    have hX := Lib.hid hx
    have hY := Lib.hid hy
    have hE := Lib.hid he
    rw [if_pos he, he]
    clear hx hy he
    go_enter Tryd.func24, Tryd.ntmps24
    go_wp2_with (first
      | (go_at_call 58
         refine (refBoth_any A B n n c d xs ys w _ ha hb hn hm).mono ?_
         rintro e w1 ⟨rfl, q1, rfl⟩
         rw [hE.out])
      | (go_at_call 55
         refine (refDistance_any A B n n c d xs ys _ _ (ha.drewN q1) (hb.drewN q1) h16 h16 hX.out hY.out).mono ?_
         rintro e w2 ⟨rfl, rfl⟩))
    go_ret2
    exact ⟨rfl, below_drewN (Below.refl _ _) q1⟩
  · have hb0 : (bothE xs ys != 0) = true := by simpa using he
    rw [if_neg he]
    clear he
    go_enter Tryd.func24, Tryd.ntmps24
    go_wp2_with (first
      | (go_at_call 58
         refine (refBoth_any A B n m c d xs ys w _ ha hb hn hm).mono ?_
         rintro e w1 ⟨rfl, q1, rfl⟩))
    go_ret2
    exact ⟨rfl, below_drewN (Below.refl _ _) q1⟩
set_option maxHeartbeats 400000 in
theorem refNextApi_any (A B : Option Addr) (n m c d : Nat) (xs ys : List Int) (w : World) (ha : RInts w w.heap.size A n xs) (hb : RInts w w.heap.size B m ys) (hn : n ≤ maxLen) (hm : m ≤ maxLen) :
    Calls Tryd.prog 26 #[.slice A n c, .slice B m d] w (RetI (if nextE xs ys = 0 then (nextS (numS xs) (numS ys) : Int) else 0) (nextE xs ys) w) := by
  by_cases he : bothE xs ys = 0
  · obtain ⟨rfl, hx, hy, k1, k2, h16, _⟩ := both_pre ha hb he
    have hX := Lib.hid hx
    have hY := Lib.hid hy
    have hE := Lib.hid he
    by_cases hs : numS xs = numS ys
    · rw [nextE_same he hs, if_neg (by omega)]
      have hd : Hid (distS (numS xs) (numS ys) = 0) := Lib.hid (by unfold distS; omega)
      clear hx hy he hs
      go_enter Tryd.func26, Tryd.ntmps26
      go_wp2_with (first
        | (go_at_call 58
           refine (refBoth_any A B n n c d xs ys w _ ha hb hn hm).mono ?_
           rintro e w1 ⟨rfl, q1, rfl⟩
           rw [hE.out])
        | (go_at_call 55
           refine (refDistance_any A B n n c d xs ys _ _ (ha.drewN q1) (hb.drewN q1) h16 h16 hX.out hY.out).mono ?_
           rintro e w2 ⟨rfl, rfl⟩
           rw [hd.out]))
      go_ret2
      exact ⟨rfl, below_drewN (Below.refl _ _) q1⟩
    · rw [nextE_ok he hs, if_pos rfl]
      have hd := distS_ne hs
      have hS := Lib.hid hs
      clear hx hy he hs
      go_enter Tryd.func26, Tryd.ntmps26
      go_wp2_with (first
        | (go_at_call 58
           refine (refBoth_any A B n n c d xs ys w _ ha hb hn hm).mono ?_
           rintro e w1 ⟨rfl, q1, rfl⟩
           rw [hE.out])
        | (go_at_call 55
           refine (refDistance_any A B n n c d xs ys _ _ (ha.drewN q1) (hb.drewN q1) h16 h16 hX.out hY.out).mono ?_
           rintro e w2 ⟨rfl, rfl⟩)
        | (go_at_call 60
           refine (refNext_any A B n c d xs ys _ (ha.drewN q1) (hb.drewN q1) h16 hX.out hY.out hS.out).mono ?_
           rintro e w3 ⟨rfl, hb3⟩))
      go_ret2
      exact ⟨rfl, (below_drewN (Below.refl _ _) q1).trans hb3⟩
  · have hb0 : (bothE xs ys != 0) = true := by simpa using he
    have hb1 : (bothE xs ys == 0) = false := by simpa using he
    rw [nextE_bad he, if_neg he]
    clear he
    go_enter Tryd.func26, Tryd.ntmps26
    go_wp2_with (first
      | (go_at_call 58
         refine (refBoth_any A B n m c d xs ys w _ ha hb hn hm).mono ?_
         rintro e w1 ⟨rfl, q1, rfl⟩))
    go_ret2
    exact ⟨rfl, below_drewN (Below.refl _ _) q1⟩
end Go.Proofs.YtjhcemhnnkcjaaaDoor
