/- The reference's Position, At, Moves, Move. -/
import Derived.Test.YtjhcemhnnkcjaaaDoorRefApi1
import Derived.Test.YtjhcemhnnkcjaaaDoorMove
namespace Go.Proofs.YtjhcemhnnkcjaaaDoor
open Go.RowKit
theorem refPlace_L (r n : Nat) (hr : r ≤ 16) (hr0 : r ≠ 0) (hn : n < 65536) (y : Int) (hy : y = (n : Int)) (w : World) :
    Calls Tryd.prog 54 #[.int .i64 r, .int .i64 y] w fun e w' => ∃ g, e = .returned (.slice (some ⟨g, 0, none⟩) r r) ∧ RInts w' w'.heap.size (some ⟨g, 0, none⟩) r (grayS r n) ∧ Below w.heap.size w w' := by
  subst hy; exact refPlace_any r n hr hr0 hn w
set_option maxHeartbeats 1000000 in
theorem refPosition_any (r n : Int) (h1 : -9223372036854775808 ≤ n) (h2 : n ≤ 9223372036854775807) (w : World) :
    Calls Tryd.prog 19 #[.int .i64 r, .int .i64 n] w (RetL (posL r n) (posE r n) w) := by
  by_cases hr1 : r < 1
  · have hE := posE_out (r := r) (n := n) (by omega)
    have hL : posL r n = [] := by rw [posL, hE]; rfl
    rw [hE, hL]
    clear hE hL
    go_enter Tryd.func19, Tryd.ntmps19
    go_wp2_with (fail)
    go_ret2
    exact RetL_nil (Below.refl _ _)
  by_cases hr2 : 16 < r
  · have hE := posE_out (r := r) (n := n) (by omega)
    have hL : posL r n = [] := by rw [posL, hE]; rfl
    rw [hE, hL]
    clear hE hL
    go_enter Tryd.func19, Tryd.ntmps19
    go_wp2_with (fail)
    go_ret2
    exact RetL_nil (Below.refl _ _)
  by_cases hn0 : n < 0
  · have hE := posE_out (r := r) (n := n) (by omega)
    have hL : posL r n = [] := by rw [posL, hE]; rfl
    rw [hE, hL]
    clear hE hL
    go_enter Tryd.func19, Tryd.ntmps19
    go_wp2_with (fail)
    go_ret2
    exact RetL_nil (Below.refl _ _)
  obtain ⟨k, rfl⟩ : ∃ k : Nat, r = k := ⟨r.toNat, by omega⟩
  obtain ⟨m, rfl⟩ : ∃ m : Nat, n = m := ⟨n.toNat, by omega⟩
  clear hn0
  have hwp : wrap64 (2 ^ k) = ((2 ^ k : Nat) : Int) := wrap64_pow (by omega)
  by_cases hb : 2 ^ k ≤ m
  · have hE := posE_out (r := k) (n := m) (by
      rintro ⟨_, _, _, h⟩
      simp only [Int.toNat_natCast] at h
      have : m < 2 ^ k := by exact_mod_cast h
      omega)
    have hL : posL k m = [] := by rw [posL, hE]; rfl
    have hs : wrap64 (2 ^ k) ≤ (m : Int) := by rw [hwp]; exact_mod_cast hb
    rw [hE, hL]
    clear hE hL hb hwp
    go_enter Tryd.func19, Tryd.ntmps19
    go_wp2_with (fail)
    go_ret2
    exact RetL_nil (Below.refl _ _)
  · have hE := posE_in (r := k) (n := m) (by omega) (by omega) (by omega)
    have hL : posL k m = grayS k m := by rw [posL, hE]; rfl
    have hs : ¬ wrap64 (2 ^ k) ≤ (m : Int) := by rw [hwp]; intro h; exact hb (by exact_mod_cast h)
    have h16 := pow16 (r := k) (by omega)
    have hm16 : m < 65536 := by omega
    rw [hE, hL]
    clear hE hL hb hwp h16
    go_enter Tryd.func19, Tryd.ntmps19
    go_wp2_with (first
      | (go_at_call 54; refine (refPlace_any k m (by omega) (by omega) hm16 _).mono ?_; rintro e w2 ⟨g, rfl, hr9, hb2⟩))
    go_ret2
    exact ⟨_, _, _, rfl, hr9, by omega, hb2⟩
set_option maxHeartbeats 1000000 in
theorem refAt_any (A B : Option Addr) (n m c d : Nat) (xs ys : List Int) (k : Int) (w : World) (ha : RInts w w.heap.size A n xs) (hb : RInts w w.heap.size B m ys) (hn : n ≤ maxLen) (hm : m ≤ maxLen) :
    Calls Tryd.prog 34 #[.slice A n c, .slice B m d, .int .i64 k] w (RetL (atL xs ys k) (atE xs ys k) w) := by
  by_cases he : bothE xs ys = 0
  · obtain ⟨rfl, hx, hy, k1, k2, hn16, hn0⟩ := both_pre ha hb he
    have hX := Lib.hid hx
    have hY := Lib.hid hy
    have hEE := Lib.hid he
    have hL := Lib.hid ha.len
    clear hx hy
    by_cases hk0 : k < 0
    · have hE : atE xs ys k = 1 := by simp [atE, he, hk0]
      have hLi : atL xs ys k = [] := by simp [atL, hE]
      rw [hE, hLi]
      clear hE hLi he
      go_enter Tryd.func34, Tryd.ntmps34
      go_wp2_with (first
        | (go_at_call 58; refine (refBoth_any A B n n c d xs ys w _ ha hb hn hm).mono ?_; rintro e w1 ⟨rfl, q1, rfl⟩; rw [hEE.out]))
      go_ret2
      exact RetL_nil (below_drewN (Below.refl _ _) q1)
    obtain ⟨j, rfl⟩ : ∃ j : Nat, k = j := ⟨k.toNat, by omega⟩
    clear hk0
    by_cases hkd : distS (numS xs) (numS ys) < j
    · have hE : atE xs ys j = 1 := by
        have : (distS (numS xs) (numS ys) : Int) < (j : Int) := by omega
        simp [atE, he, this]
      have hLi : atL xs ys j = [] := by simp [atL, hE]
      rw [hE, hLi]
      clear hE hLi he
      go_enter Tryd.func34, Tryd.ntmps34
      go_wp2_with (first
        | (go_at_call 58; refine (refBoth_any A B n n c d xs ys w _ ha hb hn hm).mono ?_; rintro e w1 ⟨rfl, q1, rfl⟩; rw [hEE.out])
        | (go_at_call 55; refine (refDistance_any A B n n c d xs ys _ _ (ha.drewN q1) (hb.drewN q1) hn16 hn16 hX.out hY.out).mono ?_; rintro e w2 ⟨rfl, rfl⟩))
      go_ret2
      exact RetL_nil (below_drewN (Below.refl _ _) q1)
    have hE : atE xs ys j = 0 := by
      have : ¬ (distS (numS xs) (numS ys) : Int) < (j : Int) := by omega
      simp [atE, he, this]
    have hkd' : ¬ (distS (numS xs) (numS ys) : Int) < (j : Int) := by omega
    by_cases hlt : numS ys < numS xs
    · have hLi : atL xs ys j = grayS n (numS xs - j) := by simp [atL, hE, hlt, hL.out]
      have hs : numS xs - j < 65536 := by omega
      have hj : j ≤ numS xs := by unfold distS at hkd; omega
      rw [hE, hLi]
      clear hE hLi he
      go_enter Tryd.func34, Tryd.ntmps34
      have _t := hn
      go_wp2_with (first
        | (go_at_call 58; refine (refBoth_any A B n n c d xs ys w _ ha hb hn hm).mono ?_; rintro e w1 ⟨rfl, q1, rfl⟩; rw [hEE.out])
        | (go_at_call 55; refine (refDistance_any A B n n c d xs ys _ _ (ha.drewN q1) (hb.drewN q1) hn16 hn16 hX.out hY.out).mono ?_; rintro e w2 ⟨rfl, rfl⟩)
        | (go_at_call_of 51 (Value.slice A n c); refine (refNumber_any A n c xs _ _ (ha.drewN q1) hn16 hX.out).mono ?_; rintro e w3 ⟨rfl, rfl⟩)
        | (go_at_call_of 51 (Value.slice B n d); refine (refNumber_any B n d ys _ _ (hb.drewN q1) hn16 hY.out).mono ?_; rintro e w3 ⟨rfl, rfl⟩)
        | (go_at_call 54; refine (refPlace_L n (numS xs - j) hn16 hn0 hs _ (by omega) _).mono ?_; rintro e w4 ⟨g, rfl, hr4, hb4⟩))
      go_ret2
      exact ⟨_, _, _, rfl, hr4, by omega, (below_drewN (Below.refl _ _) q1).trans hb4⟩
    · have hLi : atL xs ys j = grayS n (numS xs + j) := by simp [atL, hE, hlt, hL.out]
      have hs : numS xs + j < 65536 := by unfold distS at hkd; omega
      rw [hE, hLi]
      clear hE hLi he
      go_enter Tryd.func34, Tryd.ntmps34
      go_wp2_with (first
        | (go_at_call 58; refine (refBoth_any A B n n c d xs ys w _ ha hb hn hm).mono ?_; rintro e w1 ⟨rfl, q1, rfl⟩; rw [hEE.out])
        | (go_at_call 55; refine (refDistance_any A B n n c d xs ys _ _ (ha.drewN q1) (hb.drewN q1) hn16 hn16 hX.out hY.out).mono ?_; rintro e w2 ⟨rfl, rfl⟩)
        | (go_at_call_of 51 (Value.slice A n c); refine (refNumber_any A n c xs _ _ (ha.drewN q1) hn16 hX.out).mono ?_; rintro e w3 ⟨rfl, rfl⟩)
        | (go_at_call_of 51 (Value.slice B n d); refine (refNumber_any B n d ys _ _ (hb.drewN q1) hn16 hY.out).mono ?_; rintro e w3 ⟨rfl, rfl⟩)
        | (go_at_call 54; refine (refPlace_L n (numS xs + j) hn16 hn0 hs _ (by omega) _).mono ?_; rintro e w4 ⟨g, rfl, hr4, hb4⟩))
      go_ret2
      exact ⟨_, _, _, rfl, hr4, by omega, (below_drewN (Below.refl _ _) q1).trans hb4⟩
  · have hb0 : (bothE xs ys != 0) = true := by simpa using he
    have hb1 : (bothE xs ys == 0) = false := by simpa using he
    have hAE : atE xs ys k = bothE xs ys := by simp [atE, he]
    have hLi : atL xs ys k = [] := by simp [atL, hAE, he]
    rw [hAE, hLi]
    clear he hAE hLi
    go_enter Tryd.func34, Tryd.ntmps34
    go_wp2_with (first
      | (go_at_call 58; refine (refBoth_any A B n m c d xs ys w _ ha hb hn hm).mono ?_; rintro e w1 ⟨rfl, q1, rfl⟩))
    go_ret2
    exact RetL_nil (below_drewN (Below.refl _ _) q1)
set_option maxHeartbeats 400000 in
theorem refMoves_any (A : Option Addr) (n c : Nat) (xs : List Int) (w : World) (ha : RInts w w.heap.size A n xs) (hn : n ≤ maxLen) :
    Calls Tryd.prog 43 #[.slice A n c] w (RetL (movesS xs) (chk xs) w) := by
  by_cases hx : chk xs = 0
  · have hX := Lib.hid hx
    have hz := chk_zero hx
    rw [ha.len] at hz
    have hL := Lib.hid ha.len
    have hn16 := hz.2.1
    have hM : movesS xs = mvK xs n := by rw [movesS, if_pos hx, hL.out]; rfl
    rw [hM, hx]
    clear hx hz hM
    go_enter Tryd.func43, Tryd.ntmps43
    go_wp2_with (first
      | (go_at_call 47
         refine (refCheck_any A n c xs w _ ha hn).mono ?_
         rintro e w1 ⟨rfl, q1, rfl⟩
         rw [hX.out]))
    go_loopw [6, 5] (fun i v wr => ∃ k : Nat, k ≤ n ∧ i = .int .i64 k ∧ OwnI wr w.heap.size v (mvK xs k) ∧ Below w.heap.size w wr) (fun i _ _ => n - (intOf i).toNat)
    case atStart => exact ⟨0, by omega, rfl, OwnI.nil _ _, below_drewN (Below.refl _ _) q1⟩
    case round =>
      obtain ⟨k, hk, rfl, hown, hb3⟩ := hrel
      have har := (ha.below hb3).more hb3.size
      by_cases hlt : k < n
      · cases hc : canS xs k with
        | false =>
          have hC := Lib.hid hc
          have hN := Lib.hid (mvK_no hc)
          clear hc
          go_wp2_with (first
            | (go_at_call 71
               refine (refCan_any A n c k xs wr _ har hn16 hk).mono ?_
               rintro e w4 ⟨rfl, rfl⟩
               rw [hC.out]))
          go_roundw
          case rel => exact ⟨k + 1, by omega, by go_num, by rw [hN.out]; exact hown, hb3⟩
          case measure => simp [intOf]; omega
        | true =>
          have hC := Lib.hid hc
          have hN := Lib.hid (mvK_yes hc)
          have hle := mvK_le xs k
          clear hc
          go_wp2_with (first
            | (go_at_call 71
               refine (refCan_any A n c k xs wr _ har hn16 hk).mono ?_
               rintro e w4 ⟨rfl, rfl⟩
               rw [hC.out])
            | (at_builtin
               refine wpList_push rfl _ _ rfl rfl (hown.none_ (World.grownBy_alloc w4 _ none)) w4.heap.size 1 k rfl (Blk.new _ _ _) (by omega) (by simp; have := hb3.size; omega) ?_
               intro g5 cap5 w5 hown5 hg5 hat5 hlt5))
          go_roundw
          case rel =>
            refine ⟨k + 1, by omega, by go_num, by rw [hN.out]; exact hown5, (hb3.alloc hb3.size _).grown hg5 (by simp; have := hb3.size; omega) (fun j hj => hown.ge hj)⟩
          case measure => simp [intOf]; omega
      · obtain rfl : k = n := by omega
        have hle := mvK_le xs k
        go_wp2_with (fail)
        go_ret2
        exact RetL_own hown (by omega) hb3
  · have hb0 : (chk xs != 0) = true := by simpa using hx
    have hM : movesS xs = [] := by rw [movesS, if_neg hx]
    rw [hM]
    clear hx hM
    go_enter Tryd.func43, Tryd.ntmps43
    go_wp2_with (first
      | (go_at_call 47
         refine (refCheck_any A n c xs w _ ha hn).mono ?_
         rintro e w1 ⟨rfl, q1, rfl⟩))
    go_ret2
    exact RetL_nil (below_drewN (Below.refl _ _) q1)
set_option maxHeartbeats 400000 in
theorem refMove_any (A : Option Addr) (n c : Nat) (xs : List Int) (r : Int) (w : World) (ha : RInts w w.heap.size A n xs) (hn : n ≤ maxLen) :
    Calls Tryd.prog 45 #[.slice A n c, .int .i64 r] w (RetL (moveL xs r) (moveE xs r) w) := by
  by_cases hx : chk xs = 0
  · have hX := Lib.hid hx
    have hz := chk_zero hx
    rw [ha.len] at hz
    have hL := Lib.hid ha.len
    have hn16 := hz.2.1
    have hE : moveE xs r = stepE xs r := by rw [moveE, if_pos hx]
    have hB := Lib.hid (bin_of_all hz.2.2)
    by_cases hs : stepE xs r = 0
    · obtain ⟨r0, r1, -⟩ := stepE_zero hs
      have hM : moveL xs r = moveS xs r.toNat := by rw [moveL, hE, if_pos hs]
      obtain ⟨k, rfl⟩ : ∃ k : Nat, r = k := ⟨r.toNat, by omega⟩
      rw [Int.toNat_natCast] at hM
      have hk : k < n := by rw [hL.out] at r1; omega
      rw [hM, hE, hs]
      have hS := Lib.hid hs
      clear hx hz hM hE hs r0 r1
      go_enter Tryd.func45, Tryd.ntmps45
      go_wp2_with (first
        | (go_at_call 47
           refine (refCheck_any A n c xs w _ ha hn).mono ?_
           rintro e w1 ⟨rfl, q1, rfl⟩
           rw [hX.out])
        | (go_at_call 63
           refine (refStep_any A n c k xs _ _ (ha.drewN q1) hn16).mono ?_
           rintro e w2 ⟨rfl, rfl⟩
           rw [hS.out])
        | (go_at_call 61
           refine (refMoved_any A n c k xs _ (ha.drewN q1) hn16 hk hB.out).mono ?_
           rintro e w3 ⟨A3, c3, rfl, hr3, hb3⟩))
      go_ret2
      exact ⟨_, _, _, rfl, hr3, by omega, (below_drewN (Below.refl _ _) q1).trans hb3⟩
    · have hM : moveL xs r = [] := by rw [moveL, hE, if_neg hs]
      have hb0 : (stepE xs r != 0) = true := by simpa using hs
      rw [hM, hE]
      clear hx hz hM hE hs
      go_enter Tryd.func45, Tryd.ntmps45
      go_wp2_with (first
        | (go_at_call 47
           refine (refCheck_any A n c xs w _ ha hn).mono ?_
           rintro e w1 ⟨rfl, q1, rfl⟩
           rw [hX.out])
        | (go_at_call 63
           refine (refStep_any A n c r xs _ _ (ha.drewN q1) hn16).mono ?_
           rintro e w2 ⟨rfl, rfl⟩))
      go_ret2
      exact RetL_nil (below_drewN (Below.refl _ _) q1)
  · have hb0 : (chk xs != 0) = true := by simpa using hx
    have hb1 : (chk xs == 0) = false := by simpa using hx
    have hE : moveE xs r = chk xs := by rw [moveE, if_neg hx]
    have hM : moveL xs r = [] := by rw [moveL, hE, if_neg hx]
    rw [hM, hE]
    clear hx hM hE
    go_enter Tryd.func45, Tryd.ntmps45
    go_wp2_with (first
      | (go_at_call 47
         refine (refCheck_any A n c xs w _ ha hn).mono ?_
         rintro e w1 ⟨rfl, q1, rfl⟩))
    go_ret2
    exact RetL_nil (below_drewN (Below.refl _ _) q1)
end Go.Proofs.YtjhcemhnnkcjaaaDoor
