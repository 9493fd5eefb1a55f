/- The reference's both, distance and next. -/
import Derived.Test.YtjhcemhnnkcjaaaDoorRefMoved
import Derived.Test.YtjhcemhnnkcjaaaDoorCheck
import Derived.Test.YtjhcemhnnkcjaaaDoorWalked
import Derived.Test.YtjhcemhnnkcjaaaDoorWay
namespace Go.Proofs.YtjhcemhnnkcjaaaDoor
open Go.RowKit
set_option maxHeartbeats 400000 in
theorem refBoth_any (A B : Option Addr) (n m c d : Nat) (xs ys : List Int) (w : World) (BL : Nat) (ha : RInts w BL A n xs) (hb : RInts w BL B m ys) (hn : n ≤ maxLen) (hm : m ≤ maxLen) :
    Calls Tryd.prog 58 #[.slice A n c, .slice B m d] w fun e w' => e = .returned (.int .i64 (bothE xs ys)) ∧ ∃ q, w' = w.drewN q := by
  have hL1 := ha.len
  have hL2 := hb.len
  by_cases h1 : chk xs = 0
  · by_cases h2 : chk ys = 0
    · by_cases h3 : n = m
      · have hE := Lib.hid (both_of h1 h2 (by omega))
        have hX := Lib.hid h1
        have hY := Lib.hid h2
        clear h1 h2
        subst h3
        go_enter Tryd.func58, Tryd.ntmps58
        have _t := hn
        go_wp2_with (first
          | (go_at_call 47
             clear _t
             refine (refCheck_any A n c xs w BL ha hn).mono ?_
             rintro e w1 ⟨rfl, q1, rfl⟩
             rw [hX.out])
          | (go_at_call 47
             refine (refCheck_any B n d ys _ BL (hb.drewN q1) hm).mono ?_
             rintro e w1 ⟨rfl, q2, rfl⟩
             rw [hY.out]))
        go_ret
        exact ⟨by rw [hE.out]; rfl, q1 + q2, rfl⟩
      · have hE := Lib.hid (both_3 h1 h2 (by omega))
        have hX := Lib.hid h1
        have hY := Lib.hid h2
        have hne : ((n : Int) != (m : Int)) = true := by simp; omega
        clear h1 h2
        go_enter Tryd.func58, Tryd.ntmps58
        have _t := hn
        go_wp2_with (first
          | (go_at_call 47
             clear _t
             refine (refCheck_any A n c xs w BL ha hn).mono ?_
             rintro e w1 ⟨rfl, q1, rfl⟩
             rw [hX.out])
          | (go_at_call 47
             refine (refCheck_any B m d ys _ BL (hb.drewN q1) hm).mono ?_
             rintro e w1 ⟨rfl, q2, rfl⟩
             rw [hY.out]))
        go_ret
        exact ⟨by rw [hE.out]; rfl, q1 + q2, rfl⟩
    · have hE := Lib.hid (both_2 h1 h2)
      have hX := Lib.hid h1
      have hy0 : (chk ys == 0) = false := by simpa using h2
      clear h1 h2
      go_enter Tryd.func58, Tryd.ntmps58
      have _t := hn
      go_wp2_with (first
        | (go_at_call 47
           clear _t
           refine (refCheck_any A n c xs w BL ha hn).mono ?_
           rintro e w1 ⟨rfl, q1, rfl⟩
           rw [hX.out])
        | (go_at_call 47
           refine (refCheck_any B m d ys _ BL (hb.drewN q1) hm).mono ?_
           rintro e w1 ⟨rfl, q2, rfl⟩))
      go_ret
      exact ⟨by rw [hE.out]; rfl, q1 + q2, rfl⟩
  · have hE := Lib.hid (both_1 (ys := ys) h1)
    have hx0 : (chk xs == 0) = false := by simpa using h1
    clear h1
    go_enter Tryd.func58, Tryd.ntmps58
    go_wp2_with (first
      | (go_at_call 47
         refine (refCheck_any A n c xs w BL ha hn).mono ?_
         rintro e w1 ⟨rfl, q1, rfl⟩))
    go_ret
    exact ⟨by rw [hE.out]; rfl, q1, rfl⟩
theorem numS_bin16 {xs : List Int} (h : xs.length ≤ 16) : numS xs < 65536 := Nat.lt_of_lt_of_le (numS_lt xs) (pow16 h)
set_option maxHeartbeats 400000 in
theorem refDistance_any (A B : Option Addr) (n m c d : Nat) (xs ys : List Int) (w : World) (BL : Nat) (ha : RInts w BL A n xs) (hb : RInts w BL B m ys) (hn : n ≤ 16) (hm : m ≤ 16) (hx : bin xs) (hy : bin ys) :
    Calls Tryd.prog 55 #[.slice A n c, .slice B m d] w fun e w' => e = .returned (.int .i64 (distS (numS xs) (numS ys) : Nat)) ∧ w' = w := by
  have h1 := numS_bin16 (xs := xs) (by rw [ha.len]; exact hn)
  have h2 := numS_bin16 (xs := ys) (by rw [hb.len]; exact hm)
  have hD : (distS (numS xs) (numS ys) : Nat) = (numS xs - numS ys) + (numS ys - numS xs) := rfl
  have hDD := Lib.hid hD
  clear hD
  have hX := Lib.hid hx
  have hY := Lib.hid hy
  clear hx hy
  by_cases hc : numS xs - numS ys < numS ys
  · skip
    go_enter Tryd.func55, Tryd.ntmps55
    have _t := hn
    go_wp2_with (first
      | (go_at_call 51
         clear _t
         refine (refNumber_any A n c xs w BL ha hn hX.out).mono ?_
         rintro e w1 ⟨rfl, rfl⟩)
      | (go_at_call 51
         refine (refNumber_any B m d ys w1 BL hb hm hY.out).mono ?_
         rintro e w2 ⟨rfl, rfl⟩))
    all_goals
      go_ret
      exact ⟨ret_int (by rw [hDD.out]; omega), rfl⟩
  · skip
    go_enter Tryd.func55, Tryd.ntmps55
    have _t := hn
    go_wp2_with (first
      | (go_at_call 51
         clear _t
         refine (refNumber_any A n c xs w BL ha hn hX.out).mono ?_
         rintro e w1 ⟨rfl, rfl⟩)
      | (go_at_call 51
         refine (refNumber_any B m d ys w1 BL hb hm hY.out).mono ?_
         rintro e w2 ⟨rfl, rfl⟩))
    all_goals
      go_ret
      exact ⟨ret_int (by rw [hDD.out]; omega), rfl⟩
set_option maxHeartbeats 400000 in
theorem refNext_any (A B : Option Addr) (n c d : Nat) (xs ys : List Int) (w : World) (ha : RInts w w.heap.size A n xs) (hb : RInts w w.heap.size B n ys) (hn : n ≤ 16) (hx : bin xs) (hy : bin ys) (hne : numS xs ≠ numS ys) :
    Calls Tryd.prog 60 #[.slice A n c, .slice B n d] w fun e w' => e = .returned (.int .i64 (nextS (numS xs) (numS ys) : Nat)) ∧ Below w.heap.size w w' := by
  have hL := Lib.hid ha.len
  have hl2 := numS_lt ys
  rw [hb.len, ← hL.out] at hl2
  obtain ⟨s1, s2, s3, s4⟩ := next_stop hx hne hl2
  obtain ⟨K, hK⟩ : ∃ K, K = nextS (numS xs) (numS ys) := ⟨_, rfl⟩
  rw [← hK] at s1 s2 s3 s4 ⊢
  rw [hL.out] at s1
  replace s2 := Lib.hid s2
  replace s3 : Hid (distS (numS (moveS xs K)) (numS ys) + 1 = distS (numS xs) (numS ys)) := Lib.hid (by rw [s3]; exact step_near hne)
  replace s4 := Lib.hid s4
  have hX := Lib.hid hx
  have hY := Lib.hid hy
  have hK16 : K ≤ 16 := by omega
  clear hx hy hne hl2 hK
  go_enter Tryd.func60, Tryd.ntmps60
  go_wp2_with (fail)
  go_loopw [5] (fun i wr => ∃ k : Nat, k ≤ K ∧ i = .int .i64 k ∧ Below w.heap.size w wr) (fun i _ => K - (intOf i).toNat)
  case atStart => exact ⟨0, by omega, rfl, Below.refl _ _⟩
  case round =>
    obtain ⟨k, hk, rfl, hbe⟩ := hrel
    have har := (ha.below hbe).more hbe.size
    have hbr := (hb.below hbe).more hbe.size
    rcases Nat.lt_or_eq_of_le hk with hlt | rfl
    · cases hc : canS xs k with
      | false =>
        have hC := Lib.hid hc
        clear hc
        go_wp2_with (first
          | (go_at_call 71
             refine (refCan_any A n c k xs wr _ har hn (by omega)).mono ?_
             rintro e w1 ⟨rfl, rfl⟩
             rw [hC.out]))
        go_roundw
        case rel => exact ⟨k + 1, by omega, by go_num, hbe⟩
        case measure => simp [intOf]; omega
      | true =>
        have hfar : (distS (numS xs) (numS ys) : Int) < (distS (numS (moveS xs k)) (numS ys) : Nat) := by
          have := s4.out k (by rw [hL.out]; omega) hc (by omega); omega
        have hC := Lib.hid hc
        clear hc
        go_wp2_with (first
          | (go_at_call 71
             refine (refCan_any A n c k xs wr _ har hn (by omega)).mono ?_
             rintro e w1 ⟨rfl, rfl⟩
             rw [hC.out])
          | (go_at_call 61
             refine (refMoved_any A n c k xs w1 har hn (by omega) hX.out).mono ?_
             rintro e w2 ⟨A2, c2, rfl, hr2, hb2⟩
             have _t := hb2)
          | (go_at_call 55
             clear _t
             refine (refDistance_any A2 B n n c2 d (moveS xs k) ys w2 _ hr2 ((hbr.below hb2).more hb2.size) hn hn (moveS_bin hX.out k) hY.out).mono ?_
             rintro e w3 ⟨rfl, rfl⟩)
          | (go_at_call 55
             refine (refDistance_any A B n n c d xs ys w3 _ ((har.below hb2).more hb2.size) ((hbr.below hb2).more hb2.size) hn hn hX.out hY.out).mono ?_
             rintro e w4 ⟨rfl, rfl⟩))
        go_roundw
        case rel => exact ⟨k + 1, by omega, by go_num, hbe.trans (hb2.mono hbe.size)⟩
        case measure => simp [intOf]; omega
    · have hnear : ¬ ((distS (numS xs) (numS ys) : Int) < (distS (numS (moveS xs k)) (numS ys) : Nat)) := by have := s3.out; omega
      have hnear2 : (distS (numS (moveS xs k)) (numS ys) : Int) ≤ (distS (numS xs) (numS ys) : Nat) := by omega
      have hnear3 : distS (numS (moveS xs k)) (numS ys) ≤ distS (numS xs) (numS ys) := by omega
      go_wp2_with (first
        | (go_at_call 71
           refine (refCan_any A n c k xs wr _ har hn (by omega)).mono ?_
           rintro e w1 ⟨rfl, rfl⟩
           rw [s2.out])
        | (go_at_call 61
           refine (refMoved_any A n c k xs w1 har hn (by omega) hX.out).mono ?_
           rintro e w2 ⟨A2, c2, rfl, hr2, hb2⟩
           have _t := hb2)
        | (go_at_call 55
           clear _t
           refine (refDistance_any A2 B n n c2 d (moveS xs k) ys w2 _ hr2 ((hbr.below hb2).more hb2.size) hn hn (moveS_bin hX.out k) hY.out).mono ?_
           rintro e w3 ⟨rfl, rfl⟩)
        | (go_at_call 55
           refine (refDistance_any A B n n c d xs ys w3 _ ((har.below hb2).more hb2.size) ((hbr.below hb2).more hb2.size) hn hn hX.out hY.out).mono ?_
           rintro e w4 ⟨rfl, rfl⟩))
      go_ret
      exact ⟨rfl, hbe.trans (hb2.mono hbe.size)⟩
end Go.Proofs.YtjhcemhnnkcjaaaDoor
