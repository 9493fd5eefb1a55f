/- The program's within and ends. -/
import Derived.Test.YtdaaiockkbolbaaProg
import Derived.Test.YtdaaiockkbolbaaWords
namespace Go.Proofs.Ytdaaiockkbolbaa
open Go.RowKit
theorem within_any (n lo hi : Int) (w : World) : Calls Try.prog 61 #[.int .i64 n, .int .i64 lo, .int .i64 hi] w fun e w' => e = .returned (.bool (decide (lo ≤ n) && decide (n ≤ hi))) ∧ w' = w := by
  go_enter Try.func61, Try.ntmps61
  go_wp2_with (fail)
  all_goals
    go_ret
    exact ⟨congrArg (fun b => Ending.returned (.bool b)) (by first | (simp [*]; done) | (simp; omega)), rfl⟩
set_option maxRecDepth 100000 in
set_option maxHeartbeats 1000000 in
theorem ends_any (s : ByteArray) (hs : s.size ≤ 1000000000) (w : World) :
    Calls Try.prog 81 #[.string s] w fun e w' => e = .returned (.int .i64 (endsS (bts s) : Nat)) ∧ Below w.heap.size w w' := by
  by_cases h0 : s.size = 0
  · have hR := Lib.hid (endsS_none (l := bts s) (fun j h1 h2 => by rw [bts_len] at h2; omega))
    have h0' : ((s.size : Int) == 0) = true := by simp [h0]
    clear h0
    go_enter Try.func81, Try.ntmps81
    go_wp2_with (fail)
    go_ret
    exact ⟨by rw [hR.out]; rfl, Below.refl _ _⟩
  · have hp : (0 : Int) < s.size := by omega
    go_enter Try.func81, Try.ntmps81
    go_wp2_with (fail)
    go_loopw [4] (fun i wr => ∃ k : Nat, 1 ≤ k ∧ k ≤ s.size ∧ i = .int .i64 k ∧ Hid (∀ j, 1 ≤ j → j < k → tailEq (bts s) j = false) ∧ Below w.heap.size w wr) (fun i _ => s.size + 1 - (intOf i).toNat)
    case atStart => exact ⟨1, by omega, by omega, rfl, Lib.hid (fun j h1 h2 => by omega), Below.refl _ _⟩
    case round =>
      obtain ⟨k, hk1, hk2, rfl, hm, hbe⟩ := hrel
      obtain ⟨k2, hk2'⟩ : ∃ k2 : Nat, (2 : Int) * k = k2 := ⟨2 * k, by omega⟩
      by_cases hlt : 2 * k ≤ s.size
      · have hlti : (k2 : Int) ≤ s.size := by omega
        obtain ⟨q, hq⟩ : ∃ q : Nat, (s.size : Int) - 1 = q := ⟨s.size - 1, by omega⟩
        obtain ⟨p, hpp⟩ : ∃ p : Nat, (q : Int) - k = p := ⟨q - k, by omega⟩
        obtain ⟨u, hu⟩ : ∃ u : Nat, (s.size : Int) - k = u := ⟨s.size - k, by omega⟩
        obtain ⟨v, hv⟩ : ∃ v : Nat, (s.size : Int) - k2 = v := ⟨s.size - k2, by omega⟩
        have hql : q < s.size := by omega
        have hpl : p < s.size := by omega
        have hLen : (bts s).length = s.size := bts_len s
        by_cases hb : s[p] = s[q]
        · have hg : ((s[p].toNat : Int) == (s[q].toNat : Int)) = true := by rw [hb]; simp
          have hT := tail_go s (k := k) (u := u) (v := v) (by omega) (by omega)
          cases ht : tailEq (bts s) k with
          | true =>
            rw [ht] at hT
            have hR := Lib.hid (endsS_hit hk1 (by omega) ht hm.out)
            clear ht hb
            go_wp2_with (fail)
            go_quiet (fail)
            go_wp2_with (fail)
            go_ret
            exact ⟨by rw [hR.out]; rfl, below_drewN hbe _⟩
          | false =>
            rw [ht] at hT
            replace ht := Lib.hid ht
            clear hb
            go_wp2_with (fail)
            go_quiet (fail)
            go_wp2_with (fail)
            go_roundw
            case rel => exact ⟨k + 1, by omega, by omega, by go_num, Lib.hid (fun j h1 h2 => by
              by_cases e : j = k
              · rw [e]; exact ht.out
              · exact hm.out j h1 (by omega)), below_drewN hbe _⟩
            case measure => simp [intOf]; omega
        · have hg : ((s[p].toNat : Int) == (s[q].toNat : Int)) = false := by
            rw [beq_eq_false_iff_ne]
            intro e
            exact hb (UInt8.toNat_inj.1 (by omega))
          have ht := Lib.hid (tail_last hk1 hlt (by omega) (by omega) hql hpl hb)
          clear hb
          go_wp2_with (fail)
          go_quiet (fail)
          go_wp2_with (fail)
          go_roundw
          case rel => exact ⟨k + 1, by omega, by omega, by go_num, Lib.hid (fun j h1 h2 => by
            by_cases e : j = k
            · rw [e]; exact ht.out
            · exact hm.out j h1 (by omega)), below_drewN hbe _⟩
          case measure => simp [intOf]; omega
      · have hlti : ¬ (k2 : Int) ≤ s.size := by omega
        have hR := Lib.hid (endsS_none (l := bts s) (fun j h1 h2 => by
          rw [bts_len] at h2
          exact hm.out j h1 (by omega)))
        go_wp2_with (fail)
        go_ret
        exact ⟨by rw [hR.out]; rfl, hbe⟩
end Go.Proofs.Ytdaaiockkbolbaa
