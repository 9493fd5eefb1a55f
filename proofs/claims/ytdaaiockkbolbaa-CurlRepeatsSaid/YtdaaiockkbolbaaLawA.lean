/- The law's functions that stand beside the reference: CurlRepeats, CurlLonger. (Printed by genlaw.py.) -/
import Derived.Test.YtdaaiockkbolbaaWorks
namespace Go.Proofs.Ytdaaiockkbolbaa
open Go.RowKit
set_option maxRecDepth 100000 in
set_option maxHeartbeats 4000000 in
theorem repeats_law (s : ByteArray) (w : World) : Calls Try.prog 3 #[.string s] w fun e w' => e = .returned (.bool true) ∧ Below w.heap.size w w' := by
  have hbe := Below.refl w.heap.size w
  obtain ⟨V, hV⟩ : ∃ V, repV (bts s) = V := ⟨_, rfl⟩
  obtain ⟨E, hE⟩ : ∃ E, repE (bts s) = E := ⟨_, rfl⟩
  obtain ⟨C, hC⟩ : ∃ C, (if chkW (bts s) = 0 then cleanS (bts s) else false) = C := ⟨_, rfl⟩
  obtain ⟨K, hK⟩ : ∃ K, chkW (bts s) = K := ⟨_, rfl⟩
  have hVH := Lib.hid hV
  have hEH := Lib.hid hE
  have hCH := Lib.hid hC
  have hKH := Lib.hid hK
  clear hV hE hC hK
  by_cases h1 : 300 < s.size ∧ s.size ≤ 600
  · obtain ⟨h1a, h1b⟩ := h1
    have i1 : (300 : Int) < s.size := by omega
    have i2 : (s.size : Int) ≤ 600 := by omega
    clear h1a h1b
    go_enter Try.func3, Try.ntmps3
    go_wp2_with (first
      | (go_at_call 12; refine (works_any _).mono ?_; rintro e w' ⟨rfl, hb'⟩; replace hbe := hbe.trans (hb'.mono hbe.size); clear hb'))
    go_ret
    exact ⟨rfl, hbe⟩
  · by_cases h2 : 1000 < s.size
    · have i1 : (300 : Int) < s.size := by omega
      have i2 : ¬ (s.size : Int) ≤ 600 := by omega
      have i3 : (1000 : Int) < s.size := by omega
      clear h1 h2
      go_enter Try.func3, Try.ntmps3
      go_wp2_with (first
        | (go_at_call 12; refine (works_any _).mono ?_; rintro e w' ⟨rfl, hb'⟩; replace hbe := hbe.trans (hb'.mono hbe.size); clear hb'))
      go_ret
      exact ⟨rfl, hbe⟩
    · have i3 : ¬ (1000 : Int) < s.size := by omega
      by_cases h3 : 300 < s.size
      all_goals
        first
          | (have i1 : (300 : Int) < s.size := by omega
             have i2 : ¬ (s.size : Int) ≤ 600 := by omega
             clear h1 h2 h3)
          | (have i1 : ¬ (300 : Int) < s.size := by omega
             clear h1 h2 h3)
        go_enter Try.func3, Try.ntmps3
        go_wp2_with (first
          | (go_at_call 13; refine (Repeat_any s _).mono ?_; rintro e w' ⟨rfl, hb'⟩; rw [hVH.out, hEH.out]; replace hbe := hbe.trans (hb'.mono hbe.size); clear hb')
          | (go_at_call 14; refine (refRepeatApi_any s _).mono ?_; rintro e w' ⟨rfl, hb'⟩; rw [hVH.out, hEH.out]; replace hbe := hbe.trans (hb'.mono hbe.size); clear hb')
          | (go_at_call 15; refine (Clear_any s _).mono ?_; rintro e w' ⟨rfl, hb'⟩; rw [hCH.out, hKH.out]; replace hbe := hbe.trans (hb'.mono hbe.size); clear hb')
          | (go_at_call 16; refine (refClear_any s _).mono ?_; rintro e w' ⟨rfl, hb'⟩; rw [hCH.out, hKH.out]; replace hbe := hbe.trans (hb'.mono hbe.size); clear hb')
          | (go_at_call 17; refine (Check_any s _).mono ?_; rintro e w' ⟨rfl, hb'⟩; rw [hKH.out]; replace hbe := hbe.trans (hb'.mono hbe.size); clear hb')
          | (go_at_call 18; refine (refCheck_any s _).mono ?_; rintro e w' ⟨rfl, hb'⟩; rw [hKH.out]; replace hbe := hbe.trans (hb'.mono hbe.size); clear hb')
          | (go_at_call 12; refine (works_any _).mono ?_; rintro e w' ⟨rfl, hb'⟩; replace hbe := hbe.trans (hb'.mono hbe.size); clear hb'))
        go_ret
        exact ⟨rfl, hbe⟩
set_option maxRecDepth 100000 in
set_option maxHeartbeats 4000000 in
theorem longer_law (s : ByteArray) (n l : Int) (hl : -9223372036854775808 ≤ l ∧ l ≤ 9223372036854775807) (w : World) : Calls Try.prog 4 #[.string s, .int .i64 n, .int .i64 l] w fun e w' => e = .returned (.bool true) ∧ Below w.heap.size w w' := by
  have hbe := Below.refl w.heap.size w
  obtain ⟨NV, hNV⟩ : ∃ NV, nextV (bts s) n = NV := ⟨_, rfl⟩
  obtain ⟨LV, hLV⟩ : ∃ LV, longV (bts s) n l = LV := ⟨_, rfl⟩
  obtain ⟨LE, hLE⟩ : ∃ LE, longE (bts s) n l = LE := ⟨_, rfl⟩
  obtain ⟨BE, hBE⟩ : ∃ BE, begE (bts s) n = BE := ⟨_, rfl⟩
  have hNVH := Lib.hid hNV
  have hNRH := Lib.hid (show nextVR (bts s) n = NV by rw [← next_go, hNV])
  have hLVH := Lib.hid hLV
  have hLRH := Lib.hid (show longVR (bts s) n l = LV by rw [← longV_go, hLV])
  have hLEH := Lib.hid hLE
  have hLREH := Lib.hid (show longER (bts s) n l = LE by rw [← longE_go, hLE])
  have hBEH := Lib.hid hBE
  clear hNV hLV hLE hBE
  by_cases h1 : 300 < s.size ∧ s.size ≤ 600
  · obtain ⟨h1a, h1b⟩ := h1
    have i1 : (300 : Int) < s.size := by omega
    have i2 : (s.size : Int) ≤ 600 := by omega
    clear h1a h1b
    go_enter Try.func4, Try.ntmps4
    go_wp2_with (first
      | (go_at_call 12; refine (works_any _).mono ?_; rintro e w' ⟨rfl, hb'⟩; replace hbe := hbe.trans (hb'.mono hbe.size); clear hb'))
    go_ret
    exact ⟨rfl, hbe⟩
  · by_cases h2 : 1000 < s.size
    · have i1 : (300 : Int) < s.size := by omega
      have i2 : ¬ (s.size : Int) ≤ 600 := by omega
      have i3 : (1000 : Int) < s.size := by omega
      clear h1 h2
      go_enter Try.func4, Try.ntmps4
      go_wp2_with (first
        | (go_at_call 12; refine (works_any _).mono ?_; rintro e w' ⟨rfl, hb'⟩; replace hbe := hbe.trans (hb'.mono hbe.size); clear hb'))
      go_ret
      exact ⟨rfl, hbe⟩
    · have i3 : ¬ (1000 : Int) < s.size := by omega
      by_cases h3 : 300 < s.size
      all_goals
        first
          | (have i1 : (300 : Int) < s.size := by omega
             have i2 : ¬ (s.size : Int) ≤ 600 := by omega
             clear h1 h2 h3)
          | (have i1 : ¬ (300 : Int) < s.size := by omega
             clear h1 h2 h3)
        by_cases h4 : n = 4 ∧ 7 < l
        · obtain ⟨h4a, h4b⟩ := h4
          have j1 : (n == 4) = true := by simp [h4a]
          clear h4a
          go_enter Try.func4, Try.ntmps4
          go_wp2_with (first
            | (go_at_call 19; refine (Next_any s n _).mono ?_; rintro e w' ⟨rfl, hb'⟩; rw [hNVH.out, hBEH.out]; replace hbe := hbe.trans (hb'.mono hbe.size); clear hb')
            | (go_at_call 20; refine (refNextApi_any s n (by omega) _).mono ?_; rintro e w' ⟨rfl, hb'⟩; rw [hNRH.out, hBEH.out]; replace hbe := hbe.trans (hb'.mono hbe.size); clear hb')
            | (go_at_call 21; refine (Longer_any s n l _).mono ?_; rintro e w' ⟨rfl, hb'⟩; rw [hLVH.out, hLEH.out]; replace hbe := hbe.trans (hb'.mono hbe.size); clear hb')
            | (go_at_call 22; refine (refLongerApi_any s n l _).mono ?_; rintro e w' ⟨rfl, hb'⟩; rw [hLRH.out, hLREH.out]; replace hbe := hbe.trans (hb'.mono hbe.size); clear hb')
            | (go_at_call 23; refine (Count_any n _ _).mono ?_; rintro e w' ⟨rfl, hb'⟩; replace hbe := hbe.trans (hb'.mono hbe.size); clear hb')
            | (go_at_call 24; refine (refCountApi_any n _ _).mono ?_; rintro e w' ⟨rfl, hb'⟩; rw [← countV_go]; replace hbe := hbe.trans (hb'.mono hbe.size); clear hb')
            | (go_at_call 12; refine (works_any _).mono ?_; rintro e w' ⟨rfl, hb'⟩; replace hbe := hbe.trans (hb'.mono hbe.size); clear hb'))
          go_ret
          exact ⟨rfl, hbe⟩
        · by_cases h5 : n = 4
          all_goals
            first
              | (have j1 : (n == 4) = true := by simp [h5]
                 have j2 : ¬ 7 < l := fun h => h4 ⟨h5, h⟩
                 clear h4 h5)
              | (have j1 : (n == 4) = false := by simp [h5]
                 clear h4 h5)
            go_enter Try.func4, Try.ntmps4
            go_wp2_with (first
              | (go_at_call 19; refine (Next_any s n _).mono ?_; rintro e w' ⟨rfl, hb'⟩; rw [hNVH.out, hBEH.out]; replace hbe := hbe.trans (hb'.mono hbe.size); clear hb')
              | (go_at_call 20; refine (refNextApi_any s n (by omega) _).mono ?_; rintro e w' ⟨rfl, hb'⟩; rw [hNRH.out, hBEH.out]; replace hbe := hbe.trans (hb'.mono hbe.size); clear hb')
              | (go_at_call 21; refine (Longer_any s n l _).mono ?_; rintro e w' ⟨rfl, hb'⟩; rw [hLVH.out, hLEH.out]; replace hbe := hbe.trans (hb'.mono hbe.size); clear hb')
              | (go_at_call 22; refine (refLongerApi_any s n l _).mono ?_; rintro e w' ⟨rfl, hb'⟩; rw [hLRH.out, hLREH.out]; replace hbe := hbe.trans (hb'.mono hbe.size); clear hb')
              | (go_at_call 23; refine (Count_any n _ _).mono ?_; rintro e w' ⟨rfl, hb'⟩; replace hbe := hbe.trans (hb'.mono hbe.size); clear hb')
              | (go_at_call 24; refine (refCountApi_any n _ _).mono ?_; rintro e w' ⟨rfl, hb'⟩; rw [← countV_go]; replace hbe := hbe.trans (hb'.mono hbe.size); clear hb')
              | (go_at_call 12; refine (works_any _).mono ?_; rintro e w' ⟨rfl, hb'⟩; replace hbe := hbe.trans (hb'.mono hbe.size); clear hb'))
            go_ret
            exact ⟨rfl, hbe⟩
end Go.Proofs.Ytdaaiockkbolbaa
