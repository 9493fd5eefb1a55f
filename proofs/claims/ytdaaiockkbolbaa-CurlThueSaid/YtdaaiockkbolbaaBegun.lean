/- begun, and the reference's given. -/
import Derived.Test.YtdaaiockkbolbaaCheck
namespace Go.Proofs.Ytdaaiockkbolbaa
open Go.RowKit
theorem begE_bad {l : Word} {n : Int} (h : chkW l ≠ 0) : begE l n = chkW l := by rw [begE, if_pos h]
theorem begE_range {l : Word} {n : Int} (h : chkW l = 0) (h1 : ¬ (1 ≤ n ∧ n ≤ 4)) : begE l n = 1 := by rw [begE, if_neg (by simp [h]), if_pos h1]
theorem begE_none {l : Word} {n : Int} (h : chkW l = 0) (h1 : 1 ≤ n ∧ n ≤ 4) (h2 : lettersS l n = false) : begE l n = 2 := by rw [begE, if_neg (by simp [h]), if_neg (by simp [h1]), if_pos h2]
theorem begE_proof {l : Word} {n : Int} (h : chkW l = 0) (h1 : 1 ≤ n ∧ n ≤ 4) (h2 : lettersS l n = true) (h3 : cleanS l = false) : begE l n = 14 := by
  rw [begE, if_neg (by simp [h]), if_neg (by simp [h1]), if_neg (by rw [h2]; decide), if_pos h3]
theorem begE_ok {l : Word} {n : Int} (h : chkW l = 0) (h1 : 1 ≤ n ∧ n ≤ 4) (h2 : lettersS l n = true) (h3 : cleanS l = true) : begE l n = 0 := by
  rw [begE, if_neg (by simp [h]), if_neg (by simp [h1]), if_neg (by rw [h2]; decide), if_neg (by rw [h3]; decide)]
theorem begE_zero {l : Word} {n : Int} (h : begE l n = 0) : chkW l = 0 ∧ 1 ≤ n ∧ n ≤ 4 ∧ lettersS l n = true ∧ cleanS l = true := by
  by_cases hc : chkW l = 0
  · by_cases h1 : 1 ≤ n ∧ n ≤ 4
    · cases h2 : lettersS l n with
      | false => rw [begE_none hc h1 h2] at h; omega
      | true =>
        cases h3 : cleanS l with
        | false => rw [begE_proof hc h1 h2 h3] at h; omega
        | true => exact ⟨hc, h1.1, h1.2, rfl, rfl⟩
    · rw [begE_range hc h1] at h; omega
  · rw [begE_bad hc] at h; exact absurd h hc
set_option maxRecDepth 100000 in
set_option maxHeartbeats 2000000 in
theorem begun_any (s : ByteArray) (n : Int) (w : World) : Calls Try.prog 54 #[.string s, .int .i64 n] w fun e w' => e = .returned (.int .i64 (begE (bts s) n)) ∧ Below w.heap.size w w' := by
  by_cases hc : chkW (bts s) = 0
  · obtain ⟨hsz, hl4⟩ := chkW_zero hc
    rw [bts_len] at hsz
    have hcH := Lib.hid hc
    have hH := Lib.hid (show highS (bts s) = (highN (bts s) : Nat) by rw [highS, if_pos hl4])
    obtain ⟨k, hk⟩ : ∃ k, highN (bts s) = k := ⟨_, rfl⟩
    have hkH := Lib.hid hk
    by_cases h1 : 1 ≤ n ∧ n ≤ 4
    · have hw : withinB n 1 4 = true := by simp [withinB, h1]
      have ho := high_over hl4 h1.1 h1.2
      rw [hk] at ho
      cases h2 : lettersS (bts s) n with
      | false =>
        have hR := Lib.hid (begE_none hc h1 h2)
        rw [h2] at ho
        have hki : n < (k : Int) := by have := of_decide_eq_false ho.symm; omega
        clear hc hl4 hk ho h2
        go_enter Try.func54, Try.ntmps54
        go_wp2_with (first
          | (go_at_call 17; refine (Check_any s _).mono ?_; rintro e' w1 ⟨rfl, hb⟩; rw [hcH.out])
          | (go_at_call 61; refine (within_b _ _ _ _).mono ?_; rintro e' w2 ⟨rfl, rfl⟩; rw [hw])
          | (go_at_call 52; refine (highest_any s _).mono ?_; rintro e' w3 ⟨rfl, hb3⟩; rw [hH.out, hkH.out]))
        go_ret
        exact ⟨by rw [hR.out]; rfl, hb.trans (hb3.mono hb.size)⟩
      | true =>
        rw [h2] at ho
        have hki : ¬ n < (k : Int) := by have := of_decide_eq_true ho.symm; omega
        obtain ⟨q, hq⟩ : ∃ q, cleanS (bts s) = q := ⟨_, rfl⟩
        have hqH := Lib.hid hq
        have hR := Lib.hid (show begE (bts s) n = if q then 0 else 14 by
          cases q with
          | true => exact begE_ok hc h1 h2 hq
          | false => exact begE_proof hc h1 h2 hq)
        clear hc hl4 hk ho h2 hq
        cases q
        all_goals
          go_enter Try.func54, Try.ntmps54
          go_wp2_with (first
            | (go_at_call 17; refine (Check_any s _).mono ?_; rintro e' w1 ⟨rfl, hb⟩; rw [hcH.out])
            | (go_at_call 61; refine (within_b _ _ _ _).mono ?_; rintro e' w2 ⟨rfl, rfl⟩; rw [hw])
            | (go_at_call 52; refine (highest_any s _).mono ?_; rintro e' w3 ⟨rfl, hb3⟩; rw [hH.out, hkH.out])
            | (go_at_call 51; refine (clean_any s (by omega) _).mono ?_; rintro e' w4 ⟨rfl, hb4⟩; rw [hqH.out]))
          go_ret
          have hb34 := hb.trans (hb3.mono hb.size)
          exact ⟨by rw [hR.out]; rfl, hb34.trans (hb4.mono hb34.size)⟩
    · have hw : withinB n 1 4 = false := by simp [withinB]; omega
      have hR := Lib.hid (begE_range hc h1)
      clear hc hl4 hk
      go_enter Try.func54, Try.ntmps54
      go_wp2_with (first
        | (go_at_call 17; refine (Check_any s _).mono ?_; rintro e' w1 ⟨rfl, hb⟩; rw [hcH.out])
        | (go_at_call 61; refine (within_b _ _ _ _).mono ?_; rintro e' w2 ⟨rfl, rfl⟩; rw [hw]))
      go_ret
      exact ⟨by rw [hR.out]; rfl, hb⟩
  · have hcb : (chkW (bts s) != 0) = true := by simpa using hc
    have hR := Lib.hid (begE_bad (n := n) hc)
    clear hc
    go_enter Try.func54, Try.ntmps54
    go_wp2_with (first
      | (go_at_call 17; refine (Check_any s _).mono ?_; rintro e' w1 ⟨rfl, hb⟩))
    go_ret
    exact ⟨by rw [hR.out]; rfl, hb⟩
set_option maxRecDepth 100000 in
set_option maxHeartbeats 2000000 in
theorem given_any (s : ByteArray) (n : Int) (w : World) : Calls Try.prog 59 #[.string s, .int .i64 n] w fun e w' => e = .returned (.int .i64 (begE (bts s) n)) ∧ Below w.heap.size w w' := by
  by_cases hc : chkW (bts s) = 0
  · obtain ⟨hsz, hl4⟩ := chkW_zero hc
    rw [bts_len] at hsz
    have hcH := Lib.hid hc
    by_cases h1 : 1 ≤ n ∧ n ≤ 4
    · have hw : withinB n 1 4 = true := by simp [withinB, h1]
      cases h2 : lettersS (bts s) n with
      | false =>
        have hR := Lib.hid (begE_none hc h1 h2)
        replace h2 := Lib.hid h2
        clear hc hl4
        go_enter Try.func59, Try.ntmps59
        go_wp2_with (first
          | (go_at_call 18; refine (refCheck_any s _).mono ?_; rintro e' w1 ⟨rfl, hb⟩; rw [hcH.out])
          | (go_at_call 63; refine (in_any _ _ _ _).mono ?_; rintro e' w2 ⟨rfl, rfl⟩; rw [hw])
          | (go_at_call 53; refine (written_any s (by omega) n (by omega) (by omega) _).mono ?_; rintro e' w3 ⟨rfl, hb3⟩; rw [h2.out]))
        go_ret
        exact ⟨by rw [hR.out]; rfl, hb.trans (hb3.mono hb.size)⟩
      | true =>
        obtain ⟨q, hq⟩ : ∃ q, cleanS (bts s) = q := ⟨_, rfl⟩
        have hqH := Lib.hid hq
        have hR := Lib.hid (show begE (bts s) n = if q then 0 else 14 by
          cases q with
          | true => exact begE_ok hc h1 h2 hq
          | false => exact begE_proof hc h1 h2 hq)
        replace h2 := Lib.hid h2
        clear hc hl4 hq
        cases q
        all_goals
          go_enter Try.func59, Try.ntmps59
          go_wp2_with (first
            | (go_at_call 18; refine (refCheck_any s _).mono ?_; rintro e' w1 ⟨rfl, hb⟩; rw [hcH.out])
            | (go_at_call 63; refine (in_any _ _ _ _).mono ?_; rintro e' w2 ⟨rfl, rfl⟩; rw [hw])
            | (go_at_call 53; refine (written_any s (by omega) n (by omega) (by omega) _).mono ?_; rintro e' w3 ⟨rfl, hb3⟩; rw [h2.out])
            | (go_at_call 49; refine (refClean_any s (by omega) _).mono ?_; rintro e' w4 ⟨rfl, hb4⟩; rw [hqH.out]))
          go_ret
          have hb34 := hb.trans (hb3.mono hb.size)
          exact ⟨by rw [hR.out]; rfl, hb34.trans (hb4.mono hb34.size)⟩
    · have hw : withinB n 1 4 = false := by simp [withinB]; omega
      have hR := Lib.hid (begE_range hc h1)
      clear hc hl4
      go_enter Try.func59, Try.ntmps59
      go_wp2_with (first
        | (go_at_call 18; refine (refCheck_any s _).mono ?_; rintro e' w1 ⟨rfl, hb⟩; rw [hcH.out])
        | (go_at_call 63; refine (in_any _ _ _ _).mono ?_; rintro e' w2 ⟨rfl, rfl⟩; rw [hw]))
      go_ret
      exact ⟨by rw [hR.out]; rfl, hb⟩
  · have hcb : (chkW (bts s) == 0) = false := by simpa using hc
    have hR := Lib.hid (begE_bad (n := n) hc)
    clear hc
    go_enter Try.func59, Try.ntmps59
    go_wp2_with (first
      | (go_at_call 18; refine (refCheck_any s _).mono ?_; rintro e' w1 ⟨rfl, hb⟩))
    go_ret
    exact ⟨by rw [hR.out]; rfl, hb⟩
end Go.Proofs.Ytdaaiockkbolbaa
