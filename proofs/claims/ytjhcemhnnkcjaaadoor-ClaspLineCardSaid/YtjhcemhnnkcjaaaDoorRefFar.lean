/- The reference's Farthest. -/
import Derived.Test.YtjhcemhnnkcjaaaDoorRefApi2
import Derived.Test.YtjhcemhnnkcjaaaDoorRefTimes
import Derived.Test.YtjhcemhnnkcjaaaDoorFar
import Derived.Deep.CutRange
import Derived.Deep.RegionWith
namespace Go.Proofs.YtjhcemhnnkcjaaaDoor
open Go.RowKit
theorem grayS_zero_num (n : Nat) : numS (grayS n 0) = 0 := numS_grayS n 0 (Nat.pow_pos (by omega))
theorem place_zero (r : Nat) (hr : r ≤ 16) (hr0 : r ≠ 0) (w : World) :
    Calls Tryd.prog 54 #[.int .i64 r, .int .i64 0] w fun e w' => ∃ g, e = .returned (.slice (some ⟨g, 0, none⟩) r r) ∧ RInts w' w'.heap.size (some ⟨g, 0, none⟩) r (grayS r 0) ∧ Below w.heap.size w w' := refPlace_any r 0 hr hr0 (by omega) w
set_option maxRecDepth 100000 in
set_option maxHeartbeats 400000 in
theorem refFar_ok (A : Option Addr) (n c : Nat) (xs : List Int) (w : World) (ha : RInts w w.heap.size A n xs) (hn : n ≤ maxLen) (hx : chk xs = 0) :
    Calls Tryd.prog 21 #[.slice A n c] w (RetLI (if 2 ^ n - 1 - numS xs < numS xs then grayS n 0 else grayS n (2 ^ n - 1)) (if 2 ^ n - 1 - numS xs < numS xs then numS xs else 2 ^ n - 1 - numS xs : Nat) 0 w) := by
  have hz := chk_zero hx
  rw [ha.len] at hz
  have hX := Lib.hid hx
  have hL := Lib.hid ha.len
  have hBx := Lib.hid (bin_of_all hz.2.2)
  have hn16 := hz.2.1
  have hn0 := hz.1
  have h16 := pow16 hn16
  have hlt := numS_lt xs
  rw [hL.out] at hlt
  have hw0 : wrap64 (2 ^ n) = ((2 ^ n : Nat) : Int) := wrap64_pow (by omega)
  have hw0' : IntKind.i64.wrap (2 ^ n) = ((2 ^ n : Nat) : Int) := by rw [IntKind.wrap_i64]; have := wrap64_pow (k := n) (by omega); rw [← this, wrap64]
  obtain ⟨T, hT⟩ : ∃ T, T = 2 ^ n - 1 := ⟨_, rfl⟩
  have hT1 : T < 65536 := by omega
  have hNT : numS xs ≤ T := by omega
  have hnl := Lib.hid (numS_grayS n T (by rw [hT]; have : 0 < 2 ^ n := Nat.pow_pos (by omega); omega))
  have hpc : (2 : Int) ^ n = ((2 ^ n : Nat) : Int) := by push_cast; rfl
  have hw1 : IntKind.i64.wrap ((2 : Int) ^ n - 1) = (T : Int) := by rw [hpc, IntWalk.i64_in _ (by omega)]; omega
  have hw2 : (2 : Int) ^ n - 1 = (T : Int) := by rw [hpc]; omega
  rw [← hT]
  obtain ⟨N, hN⟩ : ∃ N, N = numS xs := ⟨_, rfl⟩
  rw [← hN] at hNT ⊢
  have HN := Lib.hid hN
  have HW := Lib.hid (show _ ∧ _ ∧ _ ∧ IntKind.i64.wrap (T : Int) = T from ⟨hw0, hw0', hw2, by rw [IntWalk.i64_in _ (by omega)]⟩)
  clear hx hz hT hN hlt h16 hpc hw0 hw0' hw1 hw2
  obtain ⟨ZL, hZL⟩ : ∃ Z, Z = if T - N < N then grayS n 0 else grayS n T := ⟨_, rfl⟩
  obtain ⟨ZN, hZN⟩ : ∃ Z, Z = if T - N < N then N else T - N := ⟨_, rfl⟩
  rw [← hZL, ← hZN]
  have HZL := Lib.hid hZL
  have HZN := Lib.hid hZN
  clear hZL hZN
  go_enter Tryd.func21, Tryd.ntmps21
  go_upto_region 4 with (first
    | (go_at_call 47
       refine (refCheck_any A n c xs w _ ha hn).mono ?_
       rintro e w1 ⟨rfl, q1, rfl⟩
       rw [hX.out]))
  go_cut [6, 7] from 8 (fun u v wx => ∃ (g1 g2 : Nat), u = .slice (some ⟨g1, 0, none⟩) n n ∧ v = .slice (some ⟨g2, 0, none⟩) n n ∧ RInts wx wx.heap.size (some ⟨g1, 0, none⟩) n (grayS n 0) ∧ RInts wx wx.heap.size (some ⟨g2, 0, none⟩) n (grayS n T) ∧ Below w.heap.size w wx)
  case first =>
    obtain ⟨hw0, hw0', hw2, hw3⟩ := HW.out
    have _t := hn
    go_region_with (first
      | (go_at_call 54
         clear _t
         refine (place_zero n hn16 hn0 _).mono ?_
         rintro e w2 ⟨g1, rfl, hr1, hb1⟩)
      | (go_at_call 54
         refine (refPlace_any n T hn16 hn0 hT1 _).mono ?_
         rintro e w3 ⟨g2, rfl, hr2, hb2⟩
         have hr1' := (hr1.below hb2).more hb2.size))
    all_goals
      go_wp2_with (fail)
      go_meet
      exact ⟨_, _, rfl, rfl, by assumption, by assumption, ((below_drewN (Below.refl _ w) q1).drew.trans hb1).trans (hb2.mono hb1.size)⟩
  case rest =>
    obtain ⟨g1, g2, rfl, rfl, hr1, hr2, hbe⟩ := hcut
    have har := (ha.below hbe).more hbe.size
    have d1 : Hid (distS (numS xs) (numS (grayS n 0)) = N) := Lib.hid (by rw [grayS_zero_num, ← HN.out]; unfold distS; omega)
    have d2 : Hid (distS (numS xs) (numS (grayS n T)) = T - N) := Lib.hid (by rw [hnl.out, ← HN.out]; unfold distS; omega)
    have hg0 := Lib.hid (grayS_bin n 0)
    have hgT := Lib.hid (grayS_bin n T)
    by_cases hc : T - N < N
    · have hZL : Hid (ZL = grayS n 0) := Lib.hid (by rw [HZL.out, if_pos hc])
      have hZN : Hid (ZN = N) := Lib.hid (by rw [HZN.out, if_pos hc])
      have hc2 : ((T - N : Nat) : Int) < (N : Int) := by omega
      clear HZL HZN
      have _t := hn
      have _s := hn
      go_wp2_with (first
        | (go_at_call 55
           clear _t
           refine (refDistance_any A _ n n c n xs (grayS n 0) wc _ har hr1 hn16 hn16 hBx.out hg0.out).mono ?_
           rintro e w1 ⟨rfl, rfl⟩
           rw [d1.out])
        | (go_at_call 55
           clear _s
           refine (refDistance_any A _ n n c n xs (grayS n T) _ _ har hr2 hn16 hn16 hBx.out hgT.out).mono ?_
           rintro e w1 ⟨rfl, rfl⟩
           rw [d2.out])
        | (go_at_call 55
           refine (refDistance_any A _ n n c n xs (grayS n 0) _ _ har hr1 hn16 hn16 hBx.out hg0.out).mono ?_
           rintro e w1 ⟨rfl, rfl⟩
           rw [d1.out]))
      go_ret3
      exact ⟨_, _, _, by rw [hZN.out]; rfl, by rw [hZL.out]; exact hr1, by omega, hbe⟩
    · have hZL : Hid (ZL = grayS n T) := Lib.hid (by rw [HZL.out, if_neg hc])
      have hZN : Hid (ZN = T - N) := Lib.hid (by rw [HZN.out, if_neg hc])
      have hc2 : (N : Int) ≤ ((T - N : Nat) : Int) := by omega
      have hc3 : N ≤ T - N := by omega
      clear HZL HZN
      have _t := hn
      have _s := hn
      go_wp2_with (first
        | (go_at_call 55
           clear _t
           refine (refDistance_any A _ n n c n xs (grayS n 0) _ _ har hr1 hn16 hn16 hBx.out hg0.out).mono ?_
           rintro e w1 ⟨rfl, rfl⟩
           rw [d1.out])
        | (go_at_call 55
           clear _s
           refine (refDistance_any A _ n n c n xs (grayS n T) _ _ har hr2 hn16 hn16 hBx.out hgT.out).mono ?_
           rintro e w1 ⟨rfl, rfl⟩
           rw [d2.out])
        | (go_at_call 55
           refine (refDistance_any A _ n n c n xs (grayS n T) _ _ har hr2 hn16 hn16 hBx.out hgT.out).mono ?_
           rintro e w1 ⟨rfl, rfl⟩
           rw [d2.out]))
      go_ret3
      exact ⟨_, _, _, by rw [hZN.out]; rfl, by rw [hZL.out]; exact hr2, by omega, hbe⟩
set_option maxHeartbeats 400000 in
theorem refFar_any (A : Option Addr) (n c : Nat) (xs : List Int) (w : World) (ha : RInts w w.heap.size A n xs) (hn : n ≤ maxLen) :
    Calls Tryd.prog 21 #[.slice A n c] w (RetLI (farL xs) (farN xs) (chk xs) w) := by
  by_cases hx : chk xs = 0
  · rw [farL, farN, hx, if_pos rfl, if_pos rfl, ha.len]
    exact refFar_ok A n c xs w ha hn hx
  · have hL : farL xs = [] := by rw [farL, if_neg hx]
    have hN : farN xs = 0 := by rw [farN, if_neg hx]
    rw [hL, hN]
    have hb0 : (chk xs != 0) = true := by simpa using hx
    clear hx hL hN
    go_enter Tryd.func21, Tryd.ntmps21
    go_wp2_with (first
      | (go_at_call 47
         refine (refCheck_any A n c xs w _ ha hn).mono ?_
         rintro e w1 ⟨rfl, q1, rfl⟩))
    go_ret3
    exact RetLI_nil (below_drewN (Below.refl _ _) q1)
end Go.Proofs.YtjhcemhnnkcjaaaDoor
