/- Check, Repeat, Clear and begun; the reference's. -/
import Derived.Test.YtdaaiockkbolbaaRepeat
import Derived.Test.YtdaaiockkbolbaaRune
namespace Go.Proofs.Ytdaaiockkbolbaa
open Go.RowKit
def withinB (n lo hi : Int) : Bool := decide (lo ≤ n) && decide (n ≤ hi)
theorem in_any (n lo hi : Int) (w : World) : Calls Try.prog 63 #[.int .i64 n, .int .i64 lo, .int .i64 hi] w fun e w' => e = .returned (.bool (withinB n lo hi)) ∧ w' = w := by
  unfold withinB
  go_enter Try.func63, Try.ntmps63
  go_wp2_with (fail)
  all_goals
    go_ret
    exact ⟨congrArg (fun b => Ending.returned (.bool b)) (by first | (simp [*]; done) | (simp; omega)), rfl⟩
theorem within_b (n lo hi : Int) (w : World) : Calls Try.prog 61 #[.int .i64 n, .int .i64 lo, .int .i64 hi] w fun e w' => e = .returned (.bool (withinB n lo hi)) ∧ w' = w := within_any n lo hi w
set_option maxHeartbeats 400000 in
theorem Check_any (s : ByteArray) (w : World) : Calls Try.prog 17 #[.string s] w fun e w' => e = .returned (.int .i64 (chkW (bts s))) ∧ Below w.heap.size w w' := by
  have hl := bts_len s
  by_cases h : 600 < s.size
  · have hR := Lib.hid (show chkW (bts s) = 3 by rw [chkW, if_pos (by omega)])
    have hi : (600 : Int) < s.size := by omega
    go_enter Try.func17, Try.ntmps17
    go_wp2_with (fail)
    go_ret
    exact ⟨by rw [hR.out]; rfl, Below.refl _ _⟩
  · have hi : ¬ (600 : Int) < s.size := by omega
    cases hL : lettersS (bts s) 4 with
    | true =>
      have hR := Lib.hid (show chkW (bts s) = 0 by rw [chkW, if_neg (by omega), if_pos hL])
      have hH := Lib.hid (show highS (bts s) = (highN (bts s) : Nat) by rw [highS, if_pos hL])
      clear hL
      obtain ⟨k, hk⟩ : ∃ k, highN (bts s) = k := ⟨_, rfl⟩
      have hkH := Lib.hid hk
      have hk0 : ¬ (k : Int) < 0 := by omega
      clear hk
      go_enter Try.func17, Try.ntmps17
      go_wp2_with (first
        | (go_at_call 52; refine (highest_any s _).mono ?_; rintro e' w1 ⟨rfl, hb⟩; rw [hH.out, hkH.out]))
      go_ret
      exact ⟨by rw [hR.out]; rfl, hb⟩
    | false =>
      have hR := Lib.hid (show chkW (bts s) = 10 by rw [chkW, if_neg (by omega), if_neg (by rw [hL]; decide)])
      have hH := Lib.hid (show highS (bts s) = -1 by rw [highS, if_neg (by rw [hL]; decide)])
      clear hL
      go_enter Try.func17, Try.ntmps17
      go_wp2_with (first
        | (go_at_call 52; refine (highest_any s _).mono ?_; rintro e' w1 ⟨rfl, hb⟩; rw [hH.out]))
      go_ret
      exact ⟨by rw [hR.out]; rfl, hb⟩
set_option maxRecDepth 100000 in
set_option maxHeartbeats 1000000 in
theorem written_any (s : ByteArray) (hs : s.size ≤ 1000000000) (n : Int) (h1 : -9223372036854775808 ≤ n) (h2 : n ≤ 9223372036854775000) (w : World) :
    Calls Try.prog 53 #[.string s, .int .i64 n] w fun e w' => e = .returned (.bool (lettersS (bts s) n)) ∧ Below w.heap.size w w' := by
  obtain ⟨m, hm⟩ : ∃ m, (97 : Int) + n = m := ⟨_, rfl⟩
  go_enter Try.func53, Try.ntmps53
  go_wp2_with (fail)
  go_loopw [5] (fun i wr => ∃ k : Nat, k ≤ s.size ∧ i = .int .i64 k ∧ Hid (lettersS ((bts s).take k) n = true) ∧ Below w.heap.size w wr) (fun i _ => s.size - (intOf i).toNat)
  case atStart => exact ⟨0, by omega, rfl, Lib.hid rfl, Below.refl _ _⟩
  case round =>
    obtain ⟨k, hk, rfl, hL, hbe⟩ := hrel
    by_cases hlt : k < s.size
    · obtain ⟨b, hb⟩ : ∃ b, s[k]'hlt = b := ⟨_, rfl⟩
      have hbt := bts_at s k hlt
      rw [hb] at hbt
      have hbt := Lib.hid hbt
      have hb256 : b.toNat < 256 := UInt8.toNat_lt _
      have hbs : Value.int .u8 (((s[k]'hlt).toNat : Nat) : Int) = Value.int .u8 ((b.toNat : Nat) : Int) := by rw [hb]
      by_cases hin : 97 ≤ b.toNat ∧ (b.toNat : Int) ≤ 96 + n
      · have hL2 := Lib.hid (letters_take hL.out hbt.out hin.1 hin.2)
        have hw : withinB (b.toNat : Int) 97 (m - 1) = true := by simp [withinB]; omega
        go_wp2_with (first
          | (go_at_call 63; refine (in_any _ _ _ _).mono ?_; rintro e' w1 ⟨rfl, rfl⟩; rw [hw]))
        go_roundw
        case rel => exact ⟨k + 1, by omega, by go_num, hL2, hbe⟩
        case measure => simp [intOf]; omega
      · have hR := Lib.hid (letters_no hbt.out hin)
        have hw : withinB (b.toNat : Int) 97 (m - 1) = false := by simp [withinB]; omega
        go_wp2_with (first
          | (go_at_call 63; refine (in_any _ _ _ _).mono ?_; rintro e' w1 ⟨rfl, rfl⟩; rw [hw]))
        go_ret
        exact ⟨by rw [hR.out]; rfl, hbe⟩
    · have hft : (bts s).take k = bts s := List.take_of_length_le (by rw [bts_len]; omega)
      rw [hft] at hL
      go_wp2_with (fail)
      go_ret
      exact ⟨by rw [hL.out]; rfl, hbe⟩
set_option maxHeartbeats 400000 in
theorem refCheck_any (s : ByteArray) (w : World) : Calls Try.prog 18 #[.string s] w fun e w' => e = .returned (.int .i64 (chkW (bts s))) ∧ Below w.heap.size w w' := by
  have hl := bts_len s
  by_cases h : 600 < s.size
  · have hR := Lib.hid (show chkW (bts s) = 3 by rw [chkW, if_pos (by omega)])
    have hi : (600 : Int) < s.size := by omega
    go_enter Try.func18, Try.ntmps18
    go_wp2_with (fail)
    go_ret
    exact ⟨by rw [hR.out]; rfl, Below.refl _ _⟩
  · have hi : ¬ (600 : Int) < s.size := by omega
    obtain ⟨q, hq⟩ : ∃ q, lettersS (bts s) 4 = q := ⟨_, rfl⟩
    have hqH := Lib.hid hq
    have hR := Lib.hid (show chkW (bts s) = if q then 0 else 10 by rw [chkW, if_neg (by omega), hq])
    clear hq
    cases q
    all_goals
      go_enter Try.func18, Try.ntmps18
      go_wp2_with (first
        | (go_at_call 53; refine (written_any s (by omega) 4 (by decide) (by decide) _).mono ?_; rintro e' w1 ⟨rfl, hb⟩; rw [hqH.out]))
      go_ret
      exact ⟨by rw [hR.out]; rfl, hb⟩
set_option maxHeartbeats 1000000 in
theorem Repeat_any (s : ByteArray) (w : World) : Calls Try.prog 13 #[.string s] w fun e w' => e = .returned (.tuple #[.int .i64 ((repV (bts s)).1 : Nat), .int .i64 ((repV (bts s)).2 : Nat), .int .i64 (repE (bts s))]) ∧ Below w.heap.size w w' := by
  by_cases hc : chkW (bts s) = 0
  · have hsz := (chkW_zero hc).1
    rw [bts_len] at hsz
    have hcH := Lib.hid hc
    obtain ⟨k, hk⟩ : ∃ k, (repS (bts s) 0).2 = k := ⟨_, rfl⟩
    obtain ⟨e0, he0⟩ : ∃ e0, (repS (bts s) 0).1 = e0 := ⟨_, rfl⟩
    have hkH := Lib.hid hk
    have heH := Lib.hid he0
    by_cases h0 : k = 0
    · subst h0
      have hE : repE (bts s) = 12 := by rw [repE, if_neg (by simp [hc]), if_pos (by rw [cleanS, hk]; rfl)]
      have hV : repV (bts s) = (0, 0) := by rw [repV, hE, if_neg (by decide)]
      replace hE := Lib.hid hE
      replace hV := Lib.hid hV
      clear hc hk he0
      go_enter Try.func13, Try.ntmps13
      go_wp2_with (first
        | (go_at_call 17; refine (Check_any s _).mono ?_; rintro e' w1 ⟨rfl, hb⟩; rw [hcH.out])
        | (go_at_call 48; refine (repeat_any s (by omega) _).mono ?_; rintro e' w2 ⟨rfl, hb2⟩; rw [hkH.out, heH.out]))
      go_ret3
      exact ⟨by rw [hE.out, hV.out]; rfl, hb.trans (hb2.mono hb.size)⟩
    · have hcl : cleanS (bts s) = false := by rw [cleanS, hk]; simpa using h0
      have hE : repE (bts s) = 0 := by rw [repE, if_neg (by simp [hc]), if_neg (by rw [hcl]; decide)]
      have hV : repV (bts s) = (e0 - 2 * k, k) := by rw [repV, hE, if_pos rfl, repR_hit (e := e0) (k := k) (by rw [← hk, ← he0]) (by omega)]
      have hle := repS_le (bts s)
      rw [hk, he0, bts_len] at hle
      have hki : ((k : Int) == 0) = false := by simp; omega
      obtain ⟨v, hv⟩ : ∃ v, e0 - 2 * k = v := ⟨_, rfl⟩
      rw [hv] at hV
      have hvi : (e0 : Int) - 2 * k = v := by omega
      replace hE := Lib.hid hE
      replace hV := Lib.hid hV
      clear hc hk he0 hcl hv
      go_enter Try.func13, Try.ntmps13
      go_wp2_with (first
        | (go_at_call 17; refine (Check_any s _).mono ?_; rintro e' w1 ⟨rfl, hb⟩; rw [hcH.out])
        | (go_at_call 48; refine (repeat_any s (by omega) _).mono ?_; rintro e' w2 ⟨rfl, hb2⟩; rw [hkH.out, heH.out]))
      try (go_quiet (fail); go_wp2_with (fail))
      go_ret3
      exact ⟨by rw [hE.out, hV.out]; rfl, by first | exact hb.trans (hb2.mono hb.size) | exact below_drewN (hb.trans (hb2.mono hb.size)) _⟩
  · have hcH := Lib.hid hc
    have hcb : (chkW (bts s) != 0) = true := by simpa using hc
    have hE : repE (bts s) = chkW (bts s) := by rw [repE, if_pos hc]
    have hV : repV (bts s) = (0, 0) := by rw [repV, hE, if_neg hc]
    replace hE := Lib.hid hE
    replace hV := Lib.hid hV
    clear hc
    go_enter Try.func13, Try.ntmps13
    go_wp2_with (first
      | (go_at_call 17; refine (Check_any s _).mono ?_; rintro e' w1 ⟨rfl, hb⟩))
    go_ret3
    exact ⟨by rw [hE.out, hV.out]; rfl, hb⟩
set_option maxHeartbeats 1000000 in
theorem refRepeatApi_any (s : ByteArray) (w : World) : Calls Try.prog 14 #[.string s] w fun e w' => e = .returned (.tuple #[.int .i64 ((repV (bts s)).1 : Nat), .int .i64 ((repV (bts s)).2 : Nat), .int .i64 (repE (bts s))]) ∧ Below w.heap.size w w' := by
  by_cases hc : chkW (bts s) = 0
  · have hsz := (chkW_zero hc).1
    rw [bts_len] at hsz
    have hcH := Lib.hid hc
    cases hcl : cleanS (bts s) with
    | true =>
      have hE : repE (bts s) = 12 := by rw [repE, if_neg (by simp [hc]), if_pos hcl]
      have hV : repV (bts s) = (0, 0) := by rw [repV, hE, if_neg (by decide)]
      replace hE := Lib.hid hE
      replace hV := Lib.hid hV
      replace hcl := Lib.hid hcl
      clear hc
      go_enter Try.func14, Try.ntmps14
      go_wp2_with (first
        | (go_at_call 18; refine (refCheck_any s _).mono ?_; rintro e' w1 ⟨rfl, hb⟩; rw [hcH.out])
        | (go_at_call 49; refine (refClean_any s (by omega) _).mono ?_; rintro e' w2 ⟨rfl, hb2⟩; rw [hcl.out]))
      go_ret3
      exact ⟨by rw [hE.out, hV.out]; rfl, hb.trans (hb2.mono hb.size)⟩
    | false =>
      have hE : repE (bts s) = 0 := by rw [repE, if_neg (by simp [hc]), if_neg (by rw [hcl]; decide)]
      have hV : repV (bts s) = repR (bts s) := by rw [repV, hE, if_pos rfl]
      replace hE := Lib.hid hE
      replace hV := Lib.hid hV
      replace hcl := Lib.hid hcl
      clear hc
      go_enter Try.func14, Try.ntmps14
      go_wp2_with (first
        | (go_at_call 18; refine (refCheck_any s _).mono ?_; rintro e' w1 ⟨rfl, hb⟩; rw [hcH.out])
        | (go_at_call 49; refine (refClean_any s (by omega) _).mono ?_; rintro e' w2 ⟨rfl, hb2⟩; rw [hcl.out])
        | (go_at_call 50; refine (refRepeat_any s (by omega) _).mono ?_; rintro e' w3 ⟨rfl, hb3⟩))
      try (go_quiet (fail); go_wp2_with (fail))
      go_ret3
      have hb23 := hb.trans (hb2.mono hb.size)
      exact ⟨by rw [hE.out, hV.out]; rfl, by first | exact hb23.trans (hb3.mono hb23.size) | exact below_drewN (hb23.trans (hb3.mono hb23.size)) _⟩
  · have hcH := Lib.hid hc
    have hcb : (chkW (bts s) != 0) = true := by simpa using hc
    have hcb2 : (chkW (bts s) == 0) = false := by simpa using hc
    have hE : repE (bts s) = chkW (bts s) := by rw [repE, if_pos hc]
    have hV : repV (bts s) = (0, 0) := by rw [repV, hE, if_neg hc]
    replace hE := Lib.hid hE
    replace hV := Lib.hid hV
    clear hc
    go_enter Try.func14, Try.ntmps14
    go_wp2_with (first
      | (go_at_call 18; refine (refCheck_any s _).mono ?_; rintro e' w1 ⟨rfl, hb⟩))
    go_ret3
    exact ⟨by rw [hE.out, hV.out]; rfl, hb⟩
set_option maxHeartbeats 400000 in
theorem Clear_any (s : ByteArray) (w : World) : Calls Try.prog 15 #[.string s] w fun e w' => e = .returned (.tuple #[.bool (if chkW (bts s) = 0 then cleanS (bts s) else false), .int .i64 (chkW (bts s))]) ∧ Below w.heap.size w w' := by
  by_cases hc : chkW (bts s) = 0
  · have hsz := (chkW_zero hc).1
    rw [bts_len] at hsz
    rw [if_pos hc, hc]
    have hcH := Lib.hid hc
    clear hc
    go_enter Try.func15, Try.ntmps15
    go_wp2_with (first
      | (go_at_call 17; refine (Check_any s _).mono ?_; rintro e' w1 ⟨rfl, hb⟩; rw [hcH.out])
      | (go_at_call 51; refine (clean_any s (by omega) _).mono ?_; rintro e' w2 ⟨rfl, hb2⟩))
    go_ret2
    exact ⟨rfl, hb.trans (hb2.mono hb.size)⟩
  · rw [if_neg hc]
    have hcb : (chkW (bts s) != 0) = true := by simpa using hc
    clear hc
    go_enter Try.func15, Try.ntmps15
    go_wp2_with (first
      | (go_at_call 17; refine (Check_any s _).mono ?_; rintro e' w1 ⟨rfl, hb⟩))
    go_ret2
    exact ⟨rfl, hb⟩
set_option maxHeartbeats 400000 in
theorem refClear_any (s : ByteArray) (w : World) : Calls Try.prog 16 #[.string s] w fun e w' => e = .returned (.tuple #[.bool (if chkW (bts s) = 0 then cleanS (bts s) else false), .int .i64 (chkW (bts s))]) ∧ Below w.heap.size w w' := by
  by_cases hc : chkW (bts s) = 0
  · have hsz := (chkW_zero hc).1
    rw [bts_len] at hsz
    rw [if_pos hc, hc]
    have hcH := Lib.hid hc
    clear hc
    go_enter Try.func16, Try.ntmps16
    go_wp2_with (first
      | (go_at_call 18; refine (refCheck_any s _).mono ?_; rintro e' w1 ⟨rfl, hb⟩; rw [hcH.out])
      | (go_at_call 49; refine (refClean_any s (by omega) _).mono ?_; rintro e' w2 ⟨rfl, hb2⟩))
    go_ret2
    exact ⟨rfl, hb.trans (hb2.mono hb.size)⟩
  · rw [if_neg hc]
    have hcb : (chkW (bts s) != 0) = true := by simpa using hc
    clear hc
    go_enter Try.func16, Try.ntmps16
    go_wp2_with (first
      | (go_at_call 18; refine (refCheck_any s _).mono ?_; rintro e' w1 ⟨rfl, hb⟩))
    go_ret2
    exact ⟨rfl, hb⟩
end Go.Proofs.Ytdaaiockkbolbaa
