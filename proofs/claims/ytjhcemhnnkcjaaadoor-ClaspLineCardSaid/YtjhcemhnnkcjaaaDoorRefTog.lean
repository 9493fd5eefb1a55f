/- The reference's together and Together. -/
import Derived.Test.YtjhcemhnnkcjaaaDoorRefFar
import Derived.Test.YtjhcemhnnkcjaaaDoorTogether
namespace Go.Proofs.YtjhcemhnnkcjaaaDoor
open Go.RowKit
theorem refCheck_E (A : Option Addr) (n c : Nat) (xs : List Int) (w : World) (ha : RInts w w.heap.size A n xs) (hn : n ≤ maxLen) :
    Calls Tryd.prog 47 #[.slice A n c] w (RetE (chk xs) w) := (refCheck_any A n c xs w _ ha hn).mono fun _ _ ⟨h, q, e⟩ => ⟨h, by rw [e]; exact below_drewN (Below.refl _ _) q⟩
theorem pairC_0 {w : World} {g : Nat} {t : TypeId} {A B : Option Addr} {n c m d : Nat} (h : Blk w g t (pairC A n c B m d)) : w.cell? ⟨g, 0, none⟩ = some (.slice A n c) ∧ w.cell? ⟨g, 1, none⟩ = some (.slice B m d) := ⟨by rw [h.cell]; rfl, by rw [h.cell]; rfl⟩
theorem info_pairR (A : Option Addr) (n c : Nat) (B : Option Addr) (m d : Nat) : (Tryd.prog.info? 41).map (·.size) = some (pairC A n c B m d).size := by
  show _ = some 2
  kernel_rfl
set_option maxHeartbeats 400000 in
theorem refPair_any (A B : Option Addr) (n m c d : Nat) (xs ys : List Int) (w : World) (ha : RInts w w.heap.size A n xs) (hb : RInts w w.heap.size B m ys) (hn : n ≤ maxLen) (hm : m ≤ maxLen) :
    Calls Tryd.prog 66 #[.agg (pairC A n c B m d)] w (RetE (pairE xs ys) w) := by
  have hL1 := ha.len
  have hL2 := hb.len
  by_cases h1 : chk xs = 0
  · by_cases h2 : chk ys = 0
    · have hX := Lib.hid h1
      have hY := Lib.hid h2
      by_cases h3 : n ≤ 6
      · by_cases h4 : m ≤ 6
        · have hE := Lib.hid (pairE_4 h1 h2 (by omega) (by omega))
          have h3' : (n : Int) ≤ 6 := by omega
          have h4' : (m : Int) ≤ 6 := by omega
          clear h1 h2
          go_enter Tryd.func66, Tryd.ntmps66
          have _t := hn
          go_wp2_with (first
            | (with_reducible show wpList _ _ _ (⟨some 1, .box 41 _, _, _, _, _⟩ :: _) _ _
               refine wpList_box_blk rfl 41 _ rfl (pairC A n c B m d) rfl ?_
               intro w0 g1 hP1 hg0 hs0
               have hBe0 : Below w.heap.size w w0 := below_none (Below.refl _ _) hg0 (Nat.le_refl _)
               obtain ⟨c0, c1⟩ := pairC_0 hP1
               clear hg0 hs0)
            | (go_at_call 47
               clear _t
               refine (refCheck_E A n c xs w0 ((ha.below hBe0).more hBe0.size) hn).mono ?_
               rintro e w1 ⟨rfl, hb1⟩
               have hBe1 := hBe0.trans (hb1.mono hBe0.size)
               have hP2 := hP1.callee hb1
               obtain ⟨c2, c3⟩ := pairC_0 hP2
               clear c0 c1
               rw [hX.out])
            | (go_at_call 47
               refine (refCheck_E B m d ys w1 ((hb.below hBe1).more hBe1.size) hm).mono ?_
               rintro e w2 ⟨rfl, hb2⟩
               have hBe2 := hBe1.trans (hb2.mono hBe1.size)
               have hP3 := hP2.callee hb2
               obtain ⟨c4, c5⟩ := pairC_0 hP3
               clear c2 c3
               rw [hY.out]))
          go_ret
          exact ⟨by rw [hE.out]; rfl, hBe2⟩
        · have hE := Lib.hid (pairE_3 h1 h2 (by omega))
          have h3' : (n : Int) ≤ 6 := by omega
          have h4' : (6 : Int) < m := by omega
          clear h1 h2
          go_enter Tryd.func66, Tryd.ntmps66
          have _t := hn
          go_wp2_with (first
            | (with_reducible show wpList _ _ _ (⟨some 1, .box 41 _, _, _, _, _⟩ :: _) _ _
               refine wpList_box_blk rfl 41 _ rfl (pairC A n c B m d) rfl ?_
               intro w0 g1 hP1 hg0 hs0
               have hBe0 : Below w.heap.size w w0 := below_none (Below.refl _ _) hg0 (Nat.le_refl _)
               obtain ⟨c0, c1⟩ := pairC_0 hP1
               clear hg0 hs0)
            | (go_at_call 47
               clear _t
               refine (refCheck_E A n c xs w0 ((ha.below hBe0).more hBe0.size) hn).mono ?_
               rintro e w1 ⟨rfl, hb1⟩
               have hBe1 := hBe0.trans (hb1.mono hBe0.size)
               have hP2 := hP1.callee hb1
               obtain ⟨c2, c3⟩ := pairC_0 hP2
               clear c0 c1
               rw [hX.out])
            | (go_at_call 47
               refine (refCheck_E B m d ys w1 ((hb.below hBe1).more hBe1.size) hm).mono ?_
               rintro e w2 ⟨rfl, hb2⟩
               have hBe2 := hBe1.trans (hb2.mono hBe1.size)
               have hP3 := hP2.callee hb2
               obtain ⟨c4, c5⟩ := pairC_0 hP3
               clear c2 c3
               rw [hY.out]))
          go_ret
          exact ⟨by rw [hE.out]; rfl, hBe2⟩
      · have hE := Lib.hid (pairE_3 h1 h2 (by omega))
        have h3' : (6 : Int) < n := by omega
        clear h1 h2
        go_enter Tryd.func66, Tryd.ntmps66
        have _t := hn
        go_wp2_with (first
          | (with_reducible show wpList _ _ _ (⟨some 1, .box 41 _, _, _, _, _⟩ :: _) _ _
             refine wpList_box_blk rfl 41 _ rfl (pairC A n c B m d) rfl ?_
             intro w0 g1 hP1 hg0 hs0
             have hBe0 : Below w.heap.size w w0 := below_none (Below.refl _ _) hg0 (Nat.le_refl _)
             obtain ⟨c0, c1⟩ := pairC_0 hP1
             clear hg0 hs0)
          | (go_at_call 47
             clear _t
             refine (refCheck_E A n c xs w0 ((ha.below hBe0).more hBe0.size) hn).mono ?_
             rintro e w1 ⟨rfl, hb1⟩
             have hBe1 := hBe0.trans (hb1.mono hBe0.size)
             have hP2 := hP1.callee hb1
             obtain ⟨c2, c3⟩ := pairC_0 hP2
             clear c0 c1
             rw [hX.out])
          | (go_at_call 47
             refine (refCheck_E B m d ys w1 ((hb.below hBe1).more hBe1.size) hm).mono ?_
             rintro e w2 ⟨rfl, hb2⟩
             have hBe2 := hBe1.trans (hb2.mono hBe1.size)
             have hP3 := hP2.callee hb2
             obtain ⟨c4, c5⟩ := pairC_0 hP3
             clear c2 c3
             rw [hY.out]))
        go_ret
        exact ⟨by rw [hE.out]; rfl, hBe2⟩
    · have hE := Lib.hid (pairE_2 h1 h2)
      have hX := Lib.hid h1
      have hy0 : (chk ys == 0) = false := by simpa using h2
      clear h1 h2
      go_enter Tryd.func66, Tryd.ntmps66
      have _t := hn
      go_wp2_with (first
        | (with_reducible show wpList _ _ _ (⟨some 1, .box 41 _, _, _, _, _⟩ :: _) _ _
           refine wpList_box_blk rfl 41 _ rfl (pairC A n c B m d) rfl ?_
           intro w0 g1 hP1 hg0 hs0
           have hBe0 : Below w.heap.size w w0 := below_none (Below.refl _ _) hg0 (Nat.le_refl _)
           obtain ⟨c0, c1⟩ := pairC_0 hP1
           clear hg0 hs0)
        | (go_at_call 47
           clear _t
           refine (refCheck_E A n c xs w0 ((ha.below hBe0).more hBe0.size) hn).mono ?_
           rintro e w1 ⟨rfl, hb1⟩
           have hBe1 := hBe0.trans (hb1.mono hBe0.size)
           have hP2 := hP1.callee hb1
           obtain ⟨c2, c3⟩ := pairC_0 hP2
           clear c0 c1
           rw [hX.out])
        | (go_at_call 47
           refine (refCheck_E B m d ys w1 ((hb.below hBe1).more hBe1.size) hm).mono ?_
           rintro e w2 ⟨rfl, hb2⟩
           have hBe2 := hBe1.trans (hb2.mono hBe1.size)
           have hP3 := hP2.callee hb2
           obtain ⟨c4, c5⟩ := pairC_0 hP3
           clear c2 c3))
      go_ret
      exact ⟨by rw [hE.out]; rfl, hBe2⟩
  · have hE := Lib.hid (pairE_1 (ys := ys) h1)
    have hx0 : (chk xs == 0) = false := by simpa using h1
    clear h1
    go_enter Tryd.func66, Tryd.ntmps66
    have _t := hn
    go_wp2_with (first
      | (with_reducible show wpList _ _ _ (⟨some 1, .box 41 _, _, _, _, _⟩ :: _) _ _
         refine wpList_box_blk rfl 41 _ rfl (pairC A n c B m d) rfl ?_
         intro w0 g1 hP1 hg0 hs0
         have hBe0 : Below w.heap.size w w0 := below_none (Below.refl _ _) hg0 (Nat.le_refl _)
         obtain ⟨c0, c1⟩ := pairC_0 hP1
         clear hg0 hs0)
      | (go_at_call 47
         clear _t
         refine (refCheck_E A n c xs w0 ((ha.below hBe0).more hBe0.size) hn).mono ?_
         rintro e w1 ⟨rfl, hb1⟩
         have hBe1 := hBe0.trans (hb1.mono hBe0.size)
         have hP2 := hP1.callee hb1
         obtain ⟨c2, c3⟩ := pairC_0 hP2
         clear c0 c1))
    go_ret
    exact ⟨by rw [hE.out]; rfl, hBe1⟩
set_option maxHeartbeats 400000 in
theorem refOpens_any (y z : Int) (a m : Nat) (hy : y = (a : Int)) (hz : z = (m : Int)) (ha : a < 65536) (hm : m < 65536) (w : World) :
    Calls Tryd.prog 72 #[.int .i64 y, .int .i64 z] w fun e w' => e = .returned (.bool (opensN a m)) ∧ w' = w := by
  subst hy hz
  by_cases h : a ≤ m
  · have ht : ((m : Int) - (a : Int)).tmod 2 = (((m - a) % 2 : Nat) : Int) := by rw [Int.tmod_eq_emod_of_nonneg (by omega)]; omega
    have hO : opensN a m = ((((m - a) % 2 : Nat) : Int) == 0) := by
      rw [Bool.eq_iff_iff]; simp [opensN, h]; omega
    rw [hO]
    obtain ⟨r, hr⟩ : ∃ r, r = (m - a) % 2 := ⟨_, rfl⟩
    rw [← hr] at ht ⊢
    clear hO hr
    go_enter Tryd.func72, Tryd.ntmps72
    go_wp2_with (fail)
    go_ret
    exact ⟨rfl, rfl⟩
  · have hO : opensN a m = false := by simp [opensN, h]
    rw [hO]
    clear hO
    go_enter Tryd.func72, Tryd.ntmps72
    go_wp2_with (fail)
    go_ret
    exact ⟨rfl, rfl⟩
theorem few_small {a b : Nat} (ha : a < 64) (hb : b < 64) : fewN a b < 200 := by unfold fewN; split <;> omega
theorem numS_6 {xs : List Int} {n : Nat} (h : xs.length = n) (hn : n ≤ 6) : numS xs < 64 := by
  have h1 := numS_lt xs
  have h2 : 2 ^ xs.length ≤ 2 ^ 6 := Nat.pow_le_pow_right (by omega) (by omega)
  have h3 : (2 : Nat) ^ 6 = 64 := rfl
  omega
set_option maxRecDepth 100000 in
set_option maxHeartbeats 400000 in
theorem refTogether_any (A B : Option Addr) (n m c d : Nat) (xs ys : List Int) (w : World) (ha : RInts w w.heap.size A n xs) (hb : RInts w w.heap.size B m ys) (hn : n ≤ 6) (hm : m ≤ 6) (hx : bin xs) (hy : bin ys) :
    Calls Tryd.prog 67 #[.agg (pairC A n c B m d)] w fun e w' => e = .returned (.int .i64 (fewN (numS xs) (numS ys) : Nat)) ∧ Below w.heap.size w w' := by
  have ka := numS_6 ha.len hn
  have kb := numS_6 hb.len hm
  obtain ⟨a, hA⟩ : ∃ a, a = numS xs := ⟨_, rfl⟩
  obtain ⟨b, hB⟩ : ∃ b, b = numS ys := ⟨_, rfl⟩
  rw [← hA] at ka
  rw [← hB] at kb
  rw [← hA, ← hB]
  have hff := few_first a b
  have hFs := few_small ka kb
  obtain ⟨F, hF⟩ : ∃ F, F = fewN a b := ⟨_, rfl⟩
  rw [← hF] at hff hFs ⊢
  have hF1 := Lib.hid hff.1
  have hF2 := Lib.hid hff.2
  have hX := Lib.hid hx
  have hY := Lib.hid hy
  have hAA := Lib.hid hA
  have hBB := Lib.hid hB
  clear hff hF hx hy hA hB
  go_enter Tryd.func67, Tryd.ntmps67
  go_wp2_with (first
    | (with_reducible show wpList _ _ _ (⟨some 1, .box 41 _, _, _, _, _⟩ :: _) _ _
       refine wpList_box_blk rfl 41 _ rfl (pairC A n c B m d) rfl ?_
       intro w0 g1 hP1 hg0 hs0
       have hBe0 : Below w.heap.size w w0 := below_none (Below.refl _ _) hg0 (Nat.le_refl _)
       obtain ⟨c0, c1⟩ := pairC_0 hP1
       have ha0 := (ha.below hBe0).more hBe0.size
       have hb0 := (hb.below hBe0).more hBe0.size
       clear hg0 hs0 hP1))
  go_loop [3] (fun i => ∃ k : Nat, k ≤ F ∧ i = .int .i64 k) (fun i => F - (intOf i).toNat)
  case atStart => exact ⟨0, by omega, rfl⟩
  case round =>
    obtain ⟨k, hk, rfl⟩ := hrel
    have hd1 : ((k : Int) + 1).tdiv 2 = (((k + 1) / 2 : Nat) : Int) := by rw [Int.tdiv_eq_ediv_of_nonneg (by omega)]; omega
    have hd2 : (k : Int).tdiv 2 = ((k / 2 : Nat) : Int) := by rw [Int.tdiv_eq_ediv_of_nonneg (by omega)]; omega
    obtain ⟨p, hp⟩ : ∃ p, p = (k + 1) / 2 := ⟨_, rfl⟩
    obtain ⟨q, hq⟩ : ∃ q, q = k / 2 := ⟨_, rfl⟩
    have hp16 : p < 200 := by omega
    have hq16 : q < 200 := by omega
    rw [← hp] at hd1
    rw [← hq] at hd2
    rcases Nat.lt_or_eq_of_le hk with hlt | rfl
    · have hno := hF2.out k hlt
      rw [← hp, ← hq] at hno
      clear hp hq
      cases h1 : opensN a p with
      | false =>
        have hO1 := Lib.hid h1
        clear h1 hno
        go_wp2_with (first
          | (go_at_call 51
             refine (refNumber_any A n c xs w0 _ ha0 (by omega) hX.out).mono ?_
             rintro e w1 ⟨rfl, rfl⟩
             rw [← hAA.out])
          | (go_at_call 72
             refine (refOpens_any _ _ a p rfl rfl (by omega) (by omega) _).mono ?_
             rintro e w1 ⟨rfl, rfl⟩
             rw [hO1.out]))
        go_round
        case rel => exact ⟨k + 1, by omega, by go_num⟩
        case measure => simp [intOf]; omega
      | true =>
        have hO1 := Lib.hid h1
        have hO2 : Hid (opensN b q = false) := Lib.hid (by rw [h1] at hno; simpa using hno)
        clear h1 hno
        have _t := hn
        have _s := hn
        go_wp2_with (first
          | (go_at_call 51
             clear _t
             refine (refNumber_any A n c xs w0 _ ha0 (by omega) hX.out).mono ?_
             rintro e w1 ⟨rfl, rfl⟩
             rw [← hAA.out])
          | (go_at_call 72
             clear _s
             refine (refOpens_any _ _ a p rfl rfl (by omega) (by omega) _).mono ?_
             rintro e w1 ⟨rfl, rfl⟩
             rw [hO1.out])
          | (go_at_call 51
             refine (refNumber_any B m d ys _ _ hb0 (by omega) hY.out).mono ?_
             rintro e w1 ⟨rfl, rfl⟩
             rw [← hBB.out])
          | (go_at_call 72
             refine (refOpens_any _ _ b q rfl rfl (by omega) (by omega) _).mono ?_
             rintro e w1 ⟨rfl, rfl⟩
             rw [hO2.out]))
        go_round
        case rel => exact ⟨k + 1, by omega, by go_num⟩
        case measure => simp [intOf]; omega
    · have hyes := hF1.out
      rw [← hp, ← hq, Bool.and_eq_true] at hyes
      have hO1 := Lib.hid hyes.1
      have hO2 := Lib.hid hyes.2
      clear hyes hp hq
      have _t := hn
      have _s := hn
      go_wp2_with (first
        | (go_at_call 51
           clear _t
           refine (refNumber_any A n c xs w0 _ ha0 (by omega) hX.out).mono ?_
           rintro e w1 ⟨rfl, rfl⟩
           rw [← hAA.out])
        | (go_at_call 72
           clear _s
           refine (refOpens_any _ _ a p rfl rfl (by omega) (by omega) _).mono ?_
           rintro e w1 ⟨rfl, rfl⟩
           rw [hO1.out])
        | (go_at_call 51
           refine (refNumber_any B m d ys _ _ hb0 (by omega) hY.out).mono ?_
           rintro e w1 ⟨rfl, rfl⟩
           rw [← hBB.out])
        | (go_at_call 72
           refine (refOpens_any _ _ b q rfl rfl (by omega) (by omega) _).mono ?_
           rintro e w1 ⟨rfl, rfl⟩
           rw [hO2.out]))
      go_ret
      exact ⟨rfl, hBe0⟩
set_option maxHeartbeats 400000 in
theorem refTogetherApi_any (A B : Option Addr) (n m c d : Nat) (xs ys : List Int) (w : World) (ha : RInts w w.heap.size A n xs) (hb : RInts w w.heap.size B m ys) (hn : n ≤ maxLen) (hm : m ≤ maxLen) :
    Calls Tryd.prog 36 #[.agg (pairC A n c B m d)] w (RetI (togN xs ys) (pairE xs ys) w) := by
  by_cases hx : pairE xs ys = 0
  · have hk := pairE_ok hx
    have hX := Lib.hid hx
    have h6 : n ≤ 6 := by rw [← ha.len]; exact hk.2.2.1
    have h6' : m ≤ 6 := by rw [← hb.len]; exact hk.2.2.2
    have hBx := Lib.hid (bin_of_all (chk_zero hk.1).2.2)
    have hBy := Lib.hid (bin_of_all (chk_zero hk.2.1).2.2)
    have hTg : togN xs ys = fewN (numS xs) (numS ys) := by rw [togN, if_pos hx]
    rw [hTg, hx]
    clear hk hx hTg
    go_enter Tryd.func36, Tryd.ntmps36
    go_wp2_with (first
      | (with_reducible show wpList _ _ _ (⟨some 1, .box 41 _, _, _, _, _⟩ :: _) _ _
         refine wpList_box_blk rfl 41 _ rfl (pairC A n c B m d) rfl ?_
         intro w0 g1 hP1 hg0 hs0
         have hBe0 : Below w.heap.size w w0 := below_none (Below.refl _ _) hg0 (Nat.le_refl _)
         clear hg0)
      | (with_reducible show wpList _ _ _ (⟨some 5, .load 41 _, _, _, _, _⟩ :: _) _ _
         refine wpList_load_blk rfl 41 _ rfl g1 rfl 41 _ _ hP1 Tryd.underlying41 rfl (info_pairR _ _ _ _ _ _) ?_)
      | (with_reducible show wpList _ _ _ (⟨some 10, .load 41 _, _, _, _, _⟩ :: _) _ _
         refine wpList_load_blk rfl 41 _ rfl g1 rfl 41 _ _ hP2 Tryd.underlying41 rfl (info_pairR _ _ _ _ _ _) ?_)
      | (go_at_call 66
         refine (refPair_any A B n m c d xs ys w0 ((ha.below hBe0).more hBe0.size) ((hb.below hBe0).more hBe0.size) hn hm).mono ?_
         rintro e w1 ⟨rfl, hb1⟩
         have hBe1 := hBe0.trans (hb1.mono hBe0.size)
         have hP2 := hP1.callee hb1
         rw [hX.out])
      | (go_at_call 67
         refine (refTogether_any A B n m c d xs ys w1 ((ha.below hBe1).more hBe1.size) ((hb.below hBe1).more hBe1.size) h6 h6' hBx.out hBy.out).mono ?_
         rintro e w2 ⟨rfl, hb2⟩))
    go_ret2
    exact ⟨rfl, hBe1.trans (hb2.mono hBe1.size)⟩
  · have hTg : togN xs ys = 0 := by rw [togN, if_neg hx]
    rw [hTg]
    have hb0 : (pairE xs ys != 0) = true := by simpa using hx
    clear hx hTg
    go_enter Tryd.func36, Tryd.ntmps36
    go_wp2_with (first
      | (with_reducible show wpList _ _ _ (⟨some 1, .box 41 _, _, _, _, _⟩ :: _) _ _
         refine wpList_box_blk rfl 41 _ rfl (pairC A n c B m d) rfl ?_
         intro w0 g1 hP1 hg0 hs0
         have hBe0 : Below w.heap.size w w0 := below_none (Below.refl _ _) hg0 (Nat.le_refl _)
         clear hg0)
      | (with_reducible show wpList _ _ _ (⟨some 5, .load 41 _, _, _, _, _⟩ :: _) _ _
         refine wpList_load_blk rfl 41 _ rfl g1 rfl 41 _ _ hP1 Tryd.underlying41 rfl (info_pairR _ _ _ _ _ _) ?_)
      | (go_at_call 66
         refine (refPair_any A B n m c d xs ys w0 ((ha.below hBe0).more hBe0.size) ((hb.below hBe0).more hBe0.size) hn hm).mono ?_
         rintro e w1 ⟨rfl, hb1⟩
         have hBe1 := hBe0.trans (hb1.mono hBe0.size)))
    go_ret2
    exact ⟨rfl, hBe1⟩
end Go.Proofs.YtjhcemhnnkcjaaaDoor
