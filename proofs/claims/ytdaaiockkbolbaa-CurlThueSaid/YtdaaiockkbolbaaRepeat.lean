/- The program's repeat and clean, and the reference's. -/
import Derived.Test.YtdaaiockkbolbaaEnds
namespace Go.Proofs.Ytdaaiockkbolbaa
open Go.RowKit
set_option maxRecDepth 100000 in
set_option maxHeartbeats 1000000 in
theorem repeat_any (s : ByteArray) (hs : s.size ≤ 1000000000) (w : World) :
    Calls Try.prog 48 #[.string s, .int .i64 0] w fun e w' => e = .returned (.tuple #[.int .i64 ((repS (bts s) 0).1 : Nat), .int .i64 ((repS (bts s) 0).2 : Nat)]) ∧ Below w.heap.size w w' := by
  have hLen : (bts s).length = s.size := bts_len s
  go_enter Try.func48, Try.ntmps48
  go_wp2_with (fail)
  go_loopw [6] (fun i wr => ∃ e : Nat, 1 ≤ e ∧ e ≤ s.size + 1 ∧ i = .int .i64 e ∧ Hid (∀ j, 1 ≤ j → j < e → endsS ((bts s).take j) = 0) ∧ Below w.heap.size w wr) (fun i _ => s.size + 2 - (intOf i).toNat)
  case atStart => exact ⟨1, by omega, by omega, rfl, Lib.hid (fun j h1 h2 => by omega), Below.refl _ _⟩
  case round =>
    obtain ⟨e, he1, he2, rfl, hm, hbe⟩ := hrel
    by_cases hlt : e ≤ s.size
    · have hlti : (e : Int) ≤ s.size := by omega
      have hsz := take_size s e hlt
      have hbt := Lib.hid (bts_take s e)
      obtain ⟨k, hk⟩ : ∃ k, endsS ((bts s).take e) = k := ⟨_, rfl⟩
      have hkH := Lib.hid hk
      rcases Nat.eq_zero_or_pos k with h0 | h0
      · subst h0
        clear hk
        go_wp2_with (first
          | (go_at_call 81; refine (ends_any (s.extract 0 e) (by rw [hsz]; omega) _).mono ?_; rintro e' w2 ⟨rfl, hb2⟩; rw [hbt.out, hkH.out]))
        go_roundw
        case rel => exact ⟨e + 1, by omega, by omega, by go_num, Lib.hid (fun j h1 h2 => by
          by_cases ej : j = e
          · rw [ej]; exact hkH.out
          · exact hm.out j h1 (by omega)), hbe.trans (hb2.mono hbe.size)⟩
        case measure => simp [intOf]; omega
      · have hR := Lib.hid (repS_hit he1 (by omega) (by rw [hk]; exact h0) hm.out)
        have h0' : (0 : Int) < k := by omega
        clear hk
        go_wp2_with (first
          | (go_at_call 81; refine (ends_any (s.extract 0 e) (by rw [hsz]; omega) _).mono ?_; rintro e' w2 ⟨rfl, hb2⟩; rw [hbt.out, hkH.out]))
        go_ret2
        exact ⟨by rw [hR.out, hkH.out]; rfl, hbe.trans (hb2.mono hbe.size)⟩
    · have hlti : ¬ (e : Int) ≤ s.size := by omega
      have hR := Lib.hid (repS_none (l := bts s) (fun j h1 h2 => hm.out j h1 (by omega)))
      go_wp2_with (fail)
      go_ret2
      exact ⟨by rw [hR.out]; rfl, hbe⟩
set_option maxHeartbeats 400000 in
theorem clean_any (s : ByteArray) (hs : s.size ≤ 1000000000) (w : World) :
    Calls Try.prog 51 #[.string s] w fun e w' => e = .returned (.bool (cleanS (bts s))) ∧ Below w.heap.size w w' := by
  obtain ⟨k, hk⟩ : ∃ k, (repS (bts s) 0).2 = k := ⟨_, rfl⟩
  have hR : cleanS (bts s) = (((k : Nat) : Int) == 0) := by
    unfold cleanS
    rw [hk, Bool.eq_iff_iff]
    simp
  rw [hR]
  have hkH := Lib.hid hk
  clear hk hR
  go_enter Try.func51, Try.ntmps51
  go_wp2_with (first
    | (go_at_call 48; refine (repeat_any s hs _).mono ?_; rintro e' w2 ⟨rfl, hb2⟩; rw [hkH.out]))
  go_ret
  exact ⟨rfl, hb2⟩
set_option maxRecDepth 100000 in
set_option maxHeartbeats 2000000 in
theorem refRepeat_any (s : ByteArray) (hs : s.size ≤ 1000000000) (w : World) :
    Calls Try.prog 50 #[.string s] w fun e w' => e = .returned (.tuple #[.int .i64 ((repR (bts s)).1 : Nat), .int .i64 ((repR (bts s)).2 : Nat)]) ∧ Below w.heap.size w w' := by
  have hLen : (bts s).length = s.size := bts_len s
  go_enter Try.func50, Try.ntmps50
  go_wp2_with (fail)
  go_loopw [4] (fun i wr => ∃ e : Nat, 2 ≤ e ∧ e ≤ s.size + 2 ∧ i = .int .i64 e ∧ Hid (∀ j, 1 ≤ j → j < e → endsS ((bts s).take j) = 0) ∧ Below w.heap.size w wr) (fun i _ => s.size + 3 - (intOf i).toNat)
  case atStart => exact ⟨2, by omega, by omega, rfl, Lib.hid (fun j h1 h2 => ends_short (by rw [List.length_take]; omega)), Below.refl _ _⟩
  case round =>
    obtain ⟨e, he1, he2, rfl, hm, hbe⟩ := hrel
    by_cases hlt : e ≤ s.size
    · have hlti : (e : Int) ≤ s.size := by omega
      go_wp2_with (fail)
      go_loopw [5] (fun i wr => ∃ k : Nat, 1 ≤ k ∧ k ≤ e ∧ i = .int .i64 k ∧ Hid (∀ j, 1 ≤ j → j < k → tailEq ((bts s).take e) j = false) ∧ Below w.heap.size w wr) (fun i _ => e + 1 - (intOf i).toNat)
      case atStart => exact ⟨1, by omega, by omega, rfl, Lib.hid (fun j h1 h2 => by omega), hbe⟩
      case round =>
        clear hbe
        obtain ⟨k, hk1, hk2, rfl, hn, hbe⟩ := hrel
        obtain ⟨k2, hk2'⟩ : ∃ k2 : Nat, (2 : Int) * k = k2 := ⟨2 * k, by omega⟩
        have htl : ((bts s).take e).length = e := by rw [List.length_take]; omega
        by_cases hle : 2 * k ≤ e
        · have hlei : (k2 : Int) ≤ e := by omega
          obtain ⟨u, hu⟩ : ∃ u : Nat, (e : Int) - k = u := ⟨e - k, by omega⟩
          obtain ⟨v, hv⟩ : ∃ v : Nat, (e : Int) - k2 = v := ⟨e - k2, by omega⟩
          have hT := tail_go2 s (e := e) (k := k) (u := u) (v := v) hlt (by omega) (by omega)
          cases ht : tailEq ((bts s).take e) k with
          | true =>
            rw [ht] at hT
            have hE := endsS_hit hk1 (by omega) ht hn.out
            have hR := repR_hit ((repS_hit (by omega) (by omega) (by rw [hE]; omega) hm.out).trans (by rw [hE])) (show 0 < k by omega)
            have hvk : v = e - 2 * k := by omega
            rw [← hvk] at hR
            replace hR := Lib.hid hR
            clear ht hE hvk htl
            go_wp2_with (fail)
            go_quiet (fail)
            go_wp2_with (fail)
            try (go_quiet (fail); go_wp2_with (fail))
            go_ret2
            exact ⟨by rw [hR.out]; rfl, by first | exact below_drewN hbe _ | exact below_drewN (below_drewN hbe _) _⟩
          | false =>
            rw [ht] at hT
            replace ht := Lib.hid ht
            clear htl
            go_wp2_with (fail)
            go_quiet (fail)
            go_wp2_with (fail)
            go_roundw
            case rel => exact ⟨k + 1, by omega, by omega, by go_num, Lib.hid (fun j h1 h2 => by
              by_cases ej : j = k
              · rw [ej]; exact ht.out
              · exact hn.out j h1 (by omega)), below_drewN hbe _⟩
            case measure => simp [intOf]; omega
        · have hlei : ¬ (k2 : Int) ≤ e := by omega
          have hE := Lib.hid (endsS_none (l := (bts s).take e) (fun j h1 h2 => hn.out j h1 (by omega)))
          clear htl
          go_wp2_with (fail)
          go_roundw
          case rel => exact ⟨e + 1, by omega, by omega, by go_num, Lib.hid (fun j h1 h2 => by
            by_cases ej : j = e
            · rw [ej]; exact hE.out
            · exact hm.out j h1 (by omega)), hbe⟩
          case measure => simp [intOf]; omega
    · have hlti : ¬ (e : Int) ≤ s.size := by omega
      have hR := Lib.hid (repR_none (repS_none (l := bts s) (fun j h1 h2 => hm.out j h1 (by omega))))
      go_wp2_with (fail)
      go_ret2
      exact ⟨by rw [hR.out]; rfl, hbe⟩
theorem repR_clean (l : Word) : ((repR l).2 == 0) = cleanS l := by
  unfold repR cleanS
  by_cases h : (repS l 0).2 = 0
  · rw [if_pos h, h]
  · rw [if_neg h]
set_option maxHeartbeats 400000 in
theorem refClean_any (s : ByteArray) (hs : s.size ≤ 1000000000) (w : World) :
    Calls Try.prog 49 #[.string s] w fun e w' => e = .returned (.bool (cleanS (bts s))) ∧ Below w.heap.size w w' := by
  obtain ⟨k, hk⟩ : ∃ k, (repR (bts s)).2 = k := ⟨_, rfl⟩
  have hR : cleanS (bts s) = (((k : Nat) : Int) == 0) := by
    rw [← repR_clean, hk, Bool.eq_iff_iff]
    simp
  rw [hR]
  have hkH := Lib.hid hk
  clear hk hR
  go_enter Try.func49, Try.ntmps49
  go_wp2_with (first
    | (go_at_call 50; refine (refRepeat_any s hs _).mono ?_; rintro e' w2 ⟨rfl, hb2⟩; rw [hkH.out]))
  go_ret
  exact ⟨rfl, hb2⟩
end Go.Proofs.Ytdaaiockkbolbaa
