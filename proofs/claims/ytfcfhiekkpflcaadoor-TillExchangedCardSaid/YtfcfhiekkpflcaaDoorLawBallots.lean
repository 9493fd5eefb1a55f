/- The law's TillBallots. -/
import Derived.Test.YtfcfhiekkpflcaaDoorWorks
import Derived.Test.YtfcfhiekkpflcaaDoorBalQ
namespace Go.Proofs.YtfcfhiekkpflcaaDoor
open Go.RowKit
theorem sp_letter (n x : Nat) : ∃ T : ByteArray, (⟨(spW n x).toArray⟩ : ByteArray) = T ∧ bts T = spW n x ∧ T.size = n := by
  refine ⟨_, rfl, bts_mk _, ?_⟩
  rw [← bts_len, bts_mk, spW_len]
set_option maxRecDepth 100000 in
set_option maxHeartbeats 8000000 in
theorem ballots_law (x0 x1 x2 : Int) (hx0 : 0 ≤ x0 ∧ x0 ≤ 255) (hx1 : 0 ≤ x1 ∧ x1 ≤ 255) (hx2 : 0 ≤ x2 ∧ x2 ≤ 255) (w : World) : Calls Tryd.prog 11 #[.int .u8 x0, .int .u8 x1, .int .u8 x2] w fun e w' => e = .returned (.bool true) ∧ Below w.heap.size w w' := by
  obtain ⟨n, hn⟩ : ∃ n : Nat, x0 % 13 = n := ⟨(x0 % 13).toNat, by omega⟩
  have hn1 : Int.tmod x0 13 = n := by rw [Int.tmod_eq_emod_of_nonneg (by omega)]; exact hn
  have hn12 : n ≤ 12 := by omega
  obtain ⟨N, hN⟩ : ∃ N : Nat, x1 % ((n : Int) + 1) = N := ⟨(x1 % ((n : Int) + 1)).toNat, by have := Int.emod_nonneg x1 (show (n : Int) + 1 ≠ 0 by omega); omega⟩
  have hN1 : Int.tmod x1 ((n : Int) + 1) = N := by rw [Int.tmod_eq_emod_of_nonneg (by omega)]; exact hN
  have hNn : N ≤ n := by have := Int.emod_lt_of_pos x1 (show 0 < (n : Int) + 1 by omega); omega
  obtain ⟨b, hb⟩ : ∃ b : Nat, x2 % 6 = b := ⟨(x2 % 6).toNat, by omega⟩
  have hb1 : Int.tmod x2 6 = b := by rw [Int.tmod_eq_emod_of_nonneg (by omega)]; exact hb
  have hb5 : b ≤ 5 := by omega
  have hpow : 2 ^ n ≤ 2 ^ 12 := Nat.pow_le_pow_right (by omega) hn12
  have hpv : (2 : Nat) ^ 12 = 4096 := by decide
  obtain ⟨P, hP⟩ : ∃ P, 2 ^ n = P := ⟨_, rfl⟩
  have hP1 : (2 : Int) ^ n % 4294967296 = P := by
    have : (2 : Int) ^ n = ((2 ^ n : Nat) : Int) := by simp
    rw [this, hP]
    omega
  have hPH := Lib.hid hP
  rw [hP, hpv] at hpow
  obtain ⟨tot, htot⟩ : ∃ t, cG n N b (2 ^ n) = t := ⟨_, rfl⟩
  have htotH := Lib.hid htot
  have cC := Lib.hid (fun w' => Count_any ((n : Int) - N) N b w')
  have cA := Lib.hid (fun w' => At_any ((n : Int) - N) N b tot w')
  have cF := Lib.hid (fun w' => First_any ((n : Int) - N) N b w')
  rw [cnt_val (by omega) hNn (by omega), cnt_in (by omega) hNn (by omega), htot] at cC
  have hA1 := at_out (n := n) (N := N) (b := b) (by omega) hNn (by omega)
  rw [htot] at hA1
  rw [hA1] at cA
  have hF1 := fir_end (n := n) (N := N) (b := b) (by omega) hNn (by omega)
  rw [htot] at hF1
  rw [hF1] at cF
  have hw1 := want_val (n := n) (N := N) (b := b) hNn
  rw [htot] at hw1
  have hc1 := Lib.hid (fun (h0 : b = 0) (h : 2 * N = n) => want_cat (n := n) (N := N) h)
  have hw1H := Lib.hid hw1
  have htl : tot ≤ 4096 := by
    have := cntP_le (gP n N b) (2 ^ n)
    rw [show cntP (gP n N b) (2 ^ n) = tot from htot, hP] at this
    omega
  have hbe := Below.refl w.heap.size w
  have hnN : (n : Int) + 1 ≠ 0 := by omega
  clear hw1 hA1 hF1 htot hP hpv hn hN hb
  go_enter Tryd.func11, Tryd.ntmps11
  go_wp2_with (fail)
  go_loopw [10, 11] (fun c v wr => ∃ x k : Nat, x ≤ P ∧ v = .int .u32 x ∧ c = .int .i64 k ∧ k ≤ x ∧ Hid (cG n N b x = k) ∧ Below w.heap.size w wr) (fun _ v _ => P - (intOf v).toNat)
  case atStart => exact ⟨0, 0, by omega, rfl, rfl, Nat.le_refl _, Lib.hid rfl, hbe⟩
  case round =>
    clear hbe
    obtain ⟨x, k, hxP, rfl, rfl, hkx, hk, hbe⟩ := hrel
    obtain ⟨wa, rfl⟩ : ∃ x, x = wr := ⟨wr, rfl⟩
    by_cases hlt : x < P
    · have hlti : (x : Int) < P := by omega
      have hxn : x < 2 ^ n := by rw [hPH.out]; exact hlt
      have co := Lib.hid (fun w' => ones_any x (by omega) w')
      rw [pc_sixteen (n := n) (by omega) hxn] at co
      obtain ⟨p, hp⟩ : ∃ p, pcW n x = p := ⟨_, rfl⟩
      rw [hp] at co
      by_cases hpN : p = N
      · subst hpN
        obtain ⟨T, hT, hbT, hTs⟩ := sp_letter n x
        have cs := Lib.hid (fun w' => spelled_any n x (by omega) (by omega) w')
        rw [hT] at cs
        have cr := Lib.hid (fun w' => run_any T b (by omega) (by omega) w')
        have cn := Lib.hid (fun w' => Number_any T b w')
        rw [hbT] at cr cn
        have hgi := gP_is (b := b) hp
        by_cases hl : lacksT (spW n x) b < 0
        · have hg : gP n p b x = true := by rw [hgi]; exact decide_eq_true hl
          obtain ⟨e1, e2⟩ := num_val (by omega) (by omega) hxn hg
          obtain ⟨e3, e4⟩ := at_val (by omega) hNn (by omega) hxn hg
          have hN2 := Lib.hid (cG_next hg)
          have hk0 := hk.out
          rw [hk0] at e1 e3 e4 hN2
          rw [e1, e2] at cn
          have ca := Lib.hid (fun w' => At_any ((n : Int) - p) p b k w')
          rw [e3, e4, hT] at ca
          obtain ⟨M, hM⟩ : ∃ M, lacksT (spW n x) b = M := ⟨_, rfl⟩
          rw [hM] at hl cr
          obtain ⟨X, hX⟩ : ∃ X, stepsT (b : Int) (spW n x) = X := ⟨_, rfl⟩
          rw [hX] at cr
          by_cases hz : k = 0
          · subst hz
            obtain ⟨e5, e6⟩ := fir_val (by omega) hNn (by omega) hxn hg hk0
            have cf := Lib.hid (fun w' => First_any ((n : Int) - p) p b w')
            rw [e5, e6, hT] at cf
            rw [Int.natCast_zero] at ca cn
            clear e1 e2 e3 e4 e5 e6 hgi hg hp hT hbT hk0 hM hX
            go_wp2_with (first
              | (go_at_call 44; (with_reducible refine (co.out _).mono ?_); rintro e w1 ⟨rfl, hb1⟩; replace hbe := hbe.trans (hb1.mono hbe.size); clear hb1)
              | (go_at_call 45; (with_reducible refine (cs.out _).mono ?_); rintro e wz ⟨rfl, hwz⟩; replace hwz := hwz.symm; subst hwz)
              | (go_at_call 42; (with_reducible refine (cr.out _).mono ?_); rintro e w2 ⟨v2, rfl, ho2, hb2⟩; replace hbe := hbe.trans (hb2.mono hbe.size); clear hb2 ho2)
              | (go_at_call 29; (with_reducible refine (cn.out _).mono ?_); rintro e w3 ⟨rfl, hb3⟩; replace hbe := hbe.trans (hb3.mono hbe.size); clear hb3)
              | (go_at_call 27; (with_reducible refine (ca.out _).mono ?_); rintro e w4 ⟨rfl, hb4⟩; replace hbe := hbe.trans (hb4.mono hbe.size); clear hb4)
              | (go_at_call 25; (with_reducible refine (cf.out _).mono ?_); rintro e w5 ⟨rfl, hb5⟩; replace hbe := hbe.trans (hb5.mono hbe.size); clear hb5))
            go_roundw
            case rel => exact ⟨x + 1, 1, by omega, by go_num, by go_num, by omega, hN2, hbe⟩
            case measure => simp only [intOf]; omega
          · have hz0 : ((k : Int) == 0) = false := by simp; omega
            clear e1 e2 e3 e4 hgi hg hp hT hbT hk0 hM hX
            go_wp2_with (first
              | (go_at_call 44; (with_reducible refine (co.out _).mono ?_); rintro e w1 ⟨rfl, hb1⟩; replace hbe := hbe.trans (hb1.mono hbe.size); clear hb1)
              | (go_at_call 45; (with_reducible refine (cs.out _).mono ?_); rintro e wz ⟨rfl, hwz⟩; replace hwz := hwz.symm; subst hwz)
              | (go_at_call 42; (with_reducible refine (cr.out _).mono ?_); rintro e w2 ⟨v2, rfl, ho2, hb2⟩; replace hbe := hbe.trans (hb2.mono hbe.size); clear hb2 ho2)
              | (go_at_call 29; (with_reducible refine (cn.out _).mono ?_); rintro e w3 ⟨rfl, hb3⟩; replace hbe := hbe.trans (hb3.mono hbe.size); clear hb3)
              | (go_at_call 27; (with_reducible refine (ca.out _).mono ?_); rintro e w4 ⟨rfl, hb4⟩; replace hbe := hbe.trans (hb4.mono hbe.size); clear hb4))
            go_roundw
            case rel => exact ⟨x + 1, k + 1, by omega, by go_num, by go_num, by omega, hN2, hbe⟩
            case measure => simp only [intOf]; omega
        · have hg : gP n p b x = false := by rw [hgi]; exact decide_eq_false hl
          obtain ⟨e1, e2⟩ := num_bad (b := b) (n := n) (x := x) (by omega) (by omega) hl
          have hN2 := Lib.hid (cG_stay hg)
          rw [hk.out] at hN2
          rw [e1, e2] at cn
          obtain ⟨M, hM⟩ : ∃ M, lacksT (spW n x) b = M := ⟨_, rfl⟩
          rw [hM] at hl cr
          obtain ⟨X, hX⟩ : ∃ X, stepsT (b : Int) (spW n x) = X := ⟨_, rfl⟩
          rw [hX] at cr
          have hM0 : 0 ≤ M := by omega
          clear e1 e2 hgi hg hp hT hbT hM hX
          go_wp2_with (first
            | (go_at_call 44; (with_reducible refine (co.out _).mono ?_); rintro e w1 ⟨rfl, hb1⟩; replace hbe := hbe.trans (hb1.mono hbe.size); clear hb1)
            | (go_at_call 45; (with_reducible refine (cs.out _).mono ?_); rintro e wz ⟨rfl, hwz⟩; replace hwz := hwz.symm; subst hwz)
            | (go_at_call 42; (with_reducible refine (cr.out _).mono ?_); rintro e w2 ⟨v2, rfl, ho2, hb2⟩; replace hbe := hbe.trans (hb2.mono hbe.size); clear hb2 ho2)
            | (go_at_call 29; (with_reducible refine (cn.out _).mono ?_); rintro e w3 ⟨rfl, hb3⟩; replace hbe := hbe.trans (hb3.mono hbe.size); clear hb3))
          go_roundw
          case rel => exact ⟨x + 1, k, by omega, by go_num, rfl, by omega, hN2, hbe⟩
          case measure => simp only [intOf]; omega
      · have hpN0 : ((p : Int) == N) = false := by simp; omega
        have hN2 := Lib.hid (cG_stay (gP_no (b := b) (show pcW n x ≠ N by rw [hp]; exact hpN)))
        rw [hk.out] at hN2
        clear hp
        go_wp2_with (first
          | (go_at_call 44; (with_reducible refine (co.out _).mono ?_); rintro e w1 ⟨rfl, hb1⟩; replace hbe := hbe.trans (hb1.mono hbe.size); clear hb1))
        go_roundw
        case rel => exact ⟨x + 1, k, by omega, by go_num, rfl, by omega, hN2, hbe⟩
        case measure => simp only [intOf]; omega
    · have hlti : ¬ (x : Int) < P := by omega
      obtain rfl : x = P := by omega
      have hkt : k = tot := by rw [← hk.out, ← htotH.out, hPH.out]
      subst hkt
      obtain ⟨A, hA⟩ : ∃ A, chI n N = A := ⟨_, rfl⟩
      obtain ⟨B, hB⟩ : ∃ B, chI n ((N : Int) - b - 1) = B := ⟨_, rfl⟩
      have hAb := bal_bound (m := n) (by omega) (N : Int)
      have hBb := bal_bound (m := n) (by omega) ((N : Int) - b - 1)
      have hw := hw1H.out
      rw [hA, hB] at hw
      rw [hA] at hAb
      rw [hB] at hBb
      have c1 := Lib.hid (fun w' => choose5_any n N (by omega) (by omega) w')
      have c2 := Lib.hid (fun w' => choose5_any n ((N : Int) - b - 1) (by omega) (by omega) w')
      rw [hA] at c1
      rw [hB] at c2
      have hcat : b = 0 → 2 * N = n → (k : Int) * ((N : Int) + 1) = A := fun h1 h2 => by
        have := hc1.out h1 h2
        subst h1
        rw [htotH.out, hA] at this
        exact this
      have hcase1 : ((N : Int) ≤ (n : Int) - N + b ∧ A - B = k) ∨ (¬ (N : Int) ≤ (n : Int) - N + b ∧ ((k : Int) == 0) = true) := by
        by_cases h : (N : Int) ≤ (n : Int) - N + b
        · rw [if_pos h] at hw; exact Or.inl ⟨h, hw.symm⟩
        · rw [if_neg h] at hw; exact Or.inr ⟨h, by simp; omega⟩
      have hcase2 : ((b : Int) == 0) = false ∨ (((b : Int) == 0) = true ∧ ((2 * (N : Int)) == n) = false) ∨ (((b : Int) == 0) = true ∧ ((2 * (N : Int)) == n) = true ∧ (k : Int) * ((N : Int) + 1) = A) := by
        by_cases h1 : b = 0
        · by_cases h2 : 2 * N = n
          · right; right; exact ⟨by simp [h1], by simp; omega, hcat h1 h2⟩
          · right; left; exact ⟨by simp [h1], by simp; omega⟩
        · left; simp; omega
      have hcase3 : k = 0 ∨ (0 < k ∧ ((k : Int) == 0) = false) := by
        by_cases h : k = 0
        · exact Or.inl h
        · exact Or.inr ⟨by omega, by simp; omega⟩
      clear hw hcat hA hB hc1 hw1H
      rw [show (if k = 0 then (12 : Int) else 0) = if (k : Int) = 0 then 12 else 0 by by_cases h : k = 0 <;> simp [h]] at cF
      obtain ⟨E, hE⟩ : ∃ E : Int, (if (k : Int) = 0 then (12 : Int) else 0) = E := ⟨_, rfl⟩
      have hEc : (¬ (0 : Int) < k ∧ E = 12) ∨ ((0 : Int) < k ∧ E = 0 ∧ ((k : Int) == 0) = false) := by
        rw [← hE]
        rcases hcase3 with h | ⟨h1, h2⟩
        · left; subst h; exact ⟨by omega, rfl⟩
        · right; exact ⟨by omega, by rw [if_neg (by omega)], h2⟩
      rw [hE] at cF
      clear hE hcase3
      rcases hcase1 with ⟨hd, hAB⟩ | ⟨hd, h0⟩ <;> rcases hcase2 with h3 | ⟨h3, h4⟩ | ⟨h3, h4, h5⟩ <;> rcases hEc with ⟨h6, h7⟩ | ⟨h6, h7, h8⟩
      all_goals
        subst h7
        go_wp2_with (first
          | (go_at_call 46; (with_reducible refine (c1.out _).mono ?_); rintro e w1 ⟨rfl, hb1⟩; replace hbe := hbe.trans (hb1.mono hbe.size); clear hb1)
          | (go_at_call 46; (with_reducible refine (c2.out _).mono ?_); rintro e w2 ⟨rfl, hb2⟩; replace hbe := hbe.trans (hb2.mono hbe.size); clear hb2)
          | (go_at_call 23; (with_reducible refine (cC.out _).mono ?_); rintro e wz ⟨rfl, hwz⟩; replace hwz := hwz.symm; subst hwz)
          | (go_at_call 27; (with_reducible refine (cA.out _).mono ?_); rintro e w4 ⟨rfl, hb4⟩; replace hbe := hbe.trans (hb4.mono hbe.size); clear hb4)
          | (go_at_call 25; (with_reducible refine (cF.out _).mono ?_); rintro e w5 ⟨rfl, hb5⟩; replace hbe := hbe.trans (hb5.mono hbe.size); clear hb5)
          | (go_at_call 13; (with_reducible refine (works_any _).mono ?_); rintro e w9 ⟨rfl, hb9⟩; replace hbe := hbe.trans (hb9.mono hbe.size); clear hb9))
        all_goals
          go_ret
          exact ⟨rfl, hbe⟩
end Go.Proofs.YtfcfhiekkpflcaaDoor
