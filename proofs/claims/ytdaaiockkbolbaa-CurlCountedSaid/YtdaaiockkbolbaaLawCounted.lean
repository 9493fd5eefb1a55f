/- The law's CurlCounted. (Printed by genlawc.py.) -/
import Derived.Test.YtdaaiockkbolbaaCountP
import Derived.Test.YtdaaiockkbolbaaWorks
import Derived.Test.YtdaaiockkbolbaaBackK
namespace Go.Proofs.Ytdaaiockkbolbaa
open Go.RowKit
theorem cnt_at {k n : Nat} (hk1 : 1 ≤ k) (hk : k ≤ 4) (hn : n ≤ 10) (w : World) : Calls Try.prog 23 #[.int .i64 k, .int .i64 n] w fun e w' => e = .returned (.tuple #[.int .i64 ((clB k n).length : Nat), .int .i64 0]) ∧ Below w.heap.size w w' := by
  refine (Count_any k n w).mono ?_
  rintro e w' ⟨rfl, hb⟩
  exact ⟨by rw [count_clears hk1 hk hn, countE, if_pos ⟨⟨by omega, by omega⟩, by omega, by omega⟩], hb⟩
set_option maxRecDepth 100000 in
set_option maxHeartbeats 4000000 in
theorem counted_1 (a b : Nat) (n : Nat) (hn10 : n ≤ 10) (ha : Int.tmod (a : Int) 4 = 0) (ha2 : (a : Int) % 4 = 0) (hb : Int.tmod (b : Int) 11 = n) (hb2 : (b : Int) % 11 = n) (hab : (a : Int) ≤ 255) (hbb : (b : Int) ≤ 255) (w : World) : Calls Try.prog 9 #[.int .u8 a, .int .u8 b] w fun e w' => e = .returned (.bool true) ∧ Below w.heap.size w w' := by
  have hbe := Below.refl w.heap.size w
  have hni : (n : Int) ≤ 10 := by omega
  have hcl := Lib.hid (show ∀ w', Calls Try.prog 43 #[.int .i64 1, .int .i64 n] w' (RetS (clB 1 n) w') from fun w' => clears_any 1 (by omega) n hn10 w')
  have hcnt := Lib.hid (show ∀ w', Calls Try.prog 23 #[.int .i64 1, .int .i64 n] w' fun e w2 => e = .returned (.tuple #[.int .i64 ((clB 1 n).length : Nat), .int .i64 0]) ∧ Below w'.heap.size w' w2 from fun w' => cnt_at (k := 1) (by omega) (by omega) hn10 w')
  obtain ⟨cl, hcle⟩ : ∃ cl, (clB 1 n).length = cl := ⟨_, rfl⟩
  rw [hcle] at hcnt
  have hclH := Lib.hid hcle
  have hl0 := fun w' => Longer_any ⟨#[]⟩ 1 ((4 * n : Nat) : Int) w'
  obtain ⟨d, hd⟩ : ∃ d, 4 * n = d := ⟨_, rfl⟩
  have hdi : 4 * (n : Int) = d := by omega
  rw [hd] at hl0
  have hlf := long_few (k := 1) (n := n) (by omega) (by omega) hn10
  rw [hd] at hlf
  by_cases h0 : n = 0
  · rw [if_pos h0] at hlf
    have hc0 := one_some (n := n) (by omega)
    rw [hcle] at hc0
    obtain ⟨y, hy⟩ : ∃ y, longV [] ((1 : Nat) : Int) (d : Int) = y := ⟨_, rfl⟩
    have hlon := Lib.hid (show ∀ w', Calls Try.prog 21 #[.string ⟨#[]⟩, .int .i64 1, .int .i64 d] w' fun e w2 => e = .returned (.tuple #[.string ⟨y.toArray⟩, .int .i64 0]) ∧ Below w'.heap.size w' w2 from fun w' => (hl0 w').mono (by
      rintro e w2 ⟨rfl, hb⟩
      exact ⟨by rw [← hlf, ← hy]; rfl, hb⟩))
    have hci : ((cl : Int) == 0) = false := by simp; omega
    have h1 : ¬ (1 : Int) < n := by omega
    have h2 : (d : Int) ≤ 1 := by omega
    clear h0 hd hc0
    clear hcle hl0 hy hlf
    go_enter Try.func9, Try.ntmps9
    go_wp2_with (first
      | (go_at_call 23; (with_reducible refine (hcnt.out _).mono ?_); rintro e w' ⟨rfl, hb'⟩; replace hbe := hbe.trans (hb'.mono hbe.size); clear hb')
      | (go_at_call 43; (with_reducible refine (hcl.out _).mono ?_); rintro e w' ⟨v', rfl, hv', hb'⟩
         obtain ⟨A', c', rfl, hr'⟩ := hv'.reads
         rw [hclH.out]
         replace hbe := hbe.trans (hb'.mono hbe.size)
         clear hb' hv' hr')
      | (go_at_call 21; (with_reducible refine (hlon.out _).mono ?_); rintro e w' ⟨rfl, hb'⟩; replace hbe := hbe.trans (hb'.mono hbe.size); clear hb')
      | (go_at_call 12; (with_reducible refine (works_any _).mono ?_); rintro e w' ⟨rfl, hb'⟩; replace hbe := hbe.trans (hb'.mono hbe.size); clear hb'))
    go_ret
    exact ⟨rfl, hbe⟩
  · rw [if_neg h0] at hlf
    by_cases hnt : 1 < n
    · have hc0 : cl = 0 := by rw [← hcle, one_none (by omega)]; rfl
      obtain ⟨y, hy⟩ : ∃ y, longV [] ((1 : Nat) : Int) (d : Int) = y := ⟨_, rfl⟩
      have hlon := Lib.hid (show ∀ w', Calls Try.prog 21 #[.string ⟨#[]⟩, .int .i64 1, .int .i64 d] w' fun e w2 => e = .returned (.tuple #[.string ⟨y.toArray⟩, .int .i64 12]) ∧ Below w'.heap.size w' w2 from fun w' => (hl0 w').mono (by
        rintro e w2 ⟨rfl, hb⟩
        exact ⟨by rw [← hlf, ← hy]; rfl, hb⟩))
      have hci : ((cl : Int) == 0) = true := by simp; omega
      have h1 : (1 : Int) < n := by omega
      have h2 : decide ((d : Int) ≤ 1) = false := by simp; omega
      clear h0 hnt hd hc0
      clear hcle hl0 hy hlf
      go_enter Try.func9, Try.ntmps9
      go_wp2_with (first
        | (go_at_call 23; (with_reducible refine (hcnt.out _).mono ?_); rintro e w' ⟨rfl, hb'⟩; replace hbe := hbe.trans (hb'.mono hbe.size); clear hb')
        | (go_at_call 43; (with_reducible refine (hcl.out _).mono ?_); rintro e w' ⟨v', rfl, hv', hb'⟩
           obtain ⟨A', c', rfl, hr'⟩ := hv'.reads
           rw [hclH.out]
           replace hbe := hbe.trans (hb'.mono hbe.size)
           clear hb' hv' hr')
        | (go_at_call 21; (with_reducible refine (hlon.out _).mono ?_); rintro e w' ⟨rfl, hb'⟩; replace hbe := hbe.trans (hb'.mono hbe.size); clear hb')
        | (go_at_call 12; (with_reducible refine (works_any _).mono ?_); rintro e w' ⟨rfl, hb'⟩; replace hbe := hbe.trans (hb'.mono hbe.size); clear hb'))
      go_ret
      exact ⟨rfl, hbe⟩
    · have hc0 := one_some (n := n) (by omega)
      rw [hcle] at hc0
      obtain ⟨y, hy⟩ : ∃ y, longV [] ((1 : Nat) : Int) (d : Int) = y := ⟨_, rfl⟩
      have hlon := Lib.hid (show ∀ w', Calls Try.prog 21 #[.string ⟨#[]⟩, .int .i64 1, .int .i64 d] w' fun e w2 => e = .returned (.tuple #[.string ⟨y.toArray⟩, .int .i64 12]) ∧ Below w'.heap.size w' w2 from fun w' => (hl0 w').mono (by
        rintro e w2 ⟨rfl, hb⟩
        exact ⟨by rw [← hlf, ← hy]; rfl, hb⟩))
      have hci : ((cl : Int) == 0) = false := by simp; omega
      have h1 : ¬ (1 : Int) < n := by omega
      have h2 : decide ((d : Int) ≤ 1) = false := by simp; omega
      clear h0 hnt hd hc0
      clear hcle hl0 hy hlf
      go_enter Try.func9, Try.ntmps9
      go_wp2_with (first
        | (go_at_call 23; (with_reducible refine (hcnt.out _).mono ?_); rintro e w' ⟨rfl, hb'⟩; replace hbe := hbe.trans (hb'.mono hbe.size); clear hb')
        | (go_at_call 43; (with_reducible refine (hcl.out _).mono ?_); rintro e w' ⟨v', rfl, hv', hb'⟩
           obtain ⟨A', c', rfl, hr'⟩ := hv'.reads
           rw [hclH.out]
           replace hbe := hbe.trans (hb'.mono hbe.size)
           clear hb' hv' hr')
        | (go_at_call 21; (with_reducible refine (hlon.out _).mono ?_); rintro e w' ⟨rfl, hb'⟩; replace hbe := hbe.trans (hb'.mono hbe.size); clear hb')
        | (go_at_call 12; (with_reducible refine (works_any _).mono ?_); rintro e w' ⟨rfl, hb'⟩; replace hbe := hbe.trans (hb'.mono hbe.size); clear hb'))
      go_ret
      exact ⟨rfl, hbe⟩
set_option maxRecDepth 100000 in
set_option maxHeartbeats 4000000 in
theorem counted_2 (a b : Nat) (n : Nat) (hn10 : n ≤ 10) (ha : Int.tmod (a : Int) 4 = 1) (ha2 : (a : Int) % 4 = 1) (hb : Int.tmod (b : Int) 11 = n) (hb2 : (b : Int) % 11 = n) (hab : (a : Int) ≤ 255) (hbb : (b : Int) ≤ 255) (w : World) : Calls Try.prog 9 #[.int .u8 a, .int .u8 b] w fun e w' => e = .returned (.bool true) ∧ Below w.heap.size w w' := by
  have hbe := Below.refl w.heap.size w
  have hni : (n : Int) ≤ 10 := by omega
  have hcl := Lib.hid (show ∀ w', Calls Try.prog 43 #[.int .i64 2, .int .i64 n] w' (RetS (clB 2 n) w') from fun w' => clears_any 2 (by omega) n hn10 w')
  have hcnt := Lib.hid (show ∀ w', Calls Try.prog 23 #[.int .i64 2, .int .i64 n] w' fun e w2 => e = .returned (.tuple #[.int .i64 ((clB 2 n).length : Nat), .int .i64 0]) ∧ Below w'.heap.size w' w2 from fun w' => cnt_at (k := 2) (by omega) (by omega) hn10 w')
  obtain ⟨cl, hcle⟩ : ∃ cl, (clB 2 n).length = cl := ⟨_, rfl⟩
  rw [hcle] at hcnt
  have hclH := Lib.hid hcle
  have hl0 := fun w' => Longer_any ⟨#[]⟩ 2 ((4 * n : Nat) : Int) w'
  obtain ⟨d, hd⟩ : ∃ d, 4 * n = d := ⟨_, rfl⟩
  have hdi : 4 * (n : Int) = d := by omega
  rw [hd] at hl0
  have hlf := long_few (k := 2) (n := n) (by omega) (by omega) hn10
  rw [hd] at hlf
  by_cases h0 : n = 0
  · rw [if_pos h0] at hlf
    have hc0 := two_some (n := n) (by omega)
    rw [hcle] at hc0
    obtain ⟨y, hy⟩ : ∃ y, longV [] ((2 : Nat) : Int) (d : Int) = y := ⟨_, rfl⟩
    have hlon := Lib.hid (show ∀ w', Calls Try.prog 21 #[.string ⟨#[]⟩, .int .i64 2, .int .i64 d] w' fun e w2 => e = .returned (.tuple #[.string ⟨y.toArray⟩, .int .i64 0]) ∧ Below w'.heap.size w' w2 from fun w' => (hl0 w').mono (by
      rintro e w2 ⟨rfl, hb⟩
      exact ⟨by rw [← hlf, ← hy]; rfl, hb⟩))
    have hci : ((cl : Int) == 0) = false := by simp; omega
    have h1 : ¬ (3 : Int) < n := by omega
    have h2 : (d : Int) ≤ 3 := by omega
    clear h0 hd hc0
    clear hcle hl0 hy hlf
    go_enter Try.func9, Try.ntmps9
    go_wp2_with (first
      | (go_at_call 23; (with_reducible refine (hcnt.out _).mono ?_); rintro e w' ⟨rfl, hb'⟩; replace hbe := hbe.trans (hb'.mono hbe.size); clear hb')
      | (go_at_call 43; (with_reducible refine (hcl.out _).mono ?_); rintro e w' ⟨v', rfl, hv', hb'⟩
         obtain ⟨A', c', rfl, hr'⟩ := hv'.reads
         rw [hclH.out]
         replace hbe := hbe.trans (hb'.mono hbe.size)
         clear hb' hv' hr')
      | (go_at_call 21; (with_reducible refine (hlon.out _).mono ?_); rintro e w' ⟨rfl, hb'⟩; replace hbe := hbe.trans (hb'.mono hbe.size); clear hb')
      | (go_at_call 12; (with_reducible refine (works_any _).mono ?_); rintro e w' ⟨rfl, hb'⟩; replace hbe := hbe.trans (hb'.mono hbe.size); clear hb'))
    go_ret
    exact ⟨rfl, hbe⟩
  · rw [if_neg h0] at hlf
    by_cases hnt : 3 < n
    · have hc0 : cl = 0 := by rw [← hcle, two_none (by omega)]; rfl
      obtain ⟨y, hy⟩ : ∃ y, longV [] ((2 : Nat) : Int) (d : Int) = y := ⟨_, rfl⟩
      have hlon := Lib.hid (show ∀ w', Calls Try.prog 21 #[.string ⟨#[]⟩, .int .i64 2, .int .i64 d] w' fun e w2 => e = .returned (.tuple #[.string ⟨y.toArray⟩, .int .i64 12]) ∧ Below w'.heap.size w' w2 from fun w' => (hl0 w').mono (by
        rintro e w2 ⟨rfl, hb⟩
        exact ⟨by rw [← hlf, ← hy]; rfl, hb⟩))
      have hci : ((cl : Int) == 0) = true := by simp; omega
      have h1 : (3 : Int) < n := by omega
      have h2 : decide ((d : Int) ≤ 3) = false := by simp; omega
      clear h0 hnt hd hc0
      clear hcle hl0 hy hlf
      go_enter Try.func9, Try.ntmps9
      go_wp2_with (first
        | (go_at_call 23; (with_reducible refine (hcnt.out _).mono ?_); rintro e w' ⟨rfl, hb'⟩; replace hbe := hbe.trans (hb'.mono hbe.size); clear hb')
        | (go_at_call 43; (with_reducible refine (hcl.out _).mono ?_); rintro e w' ⟨v', rfl, hv', hb'⟩
           obtain ⟨A', c', rfl, hr'⟩ := hv'.reads
           rw [hclH.out]
           replace hbe := hbe.trans (hb'.mono hbe.size)
           clear hb' hv' hr')
        | (go_at_call 21; (with_reducible refine (hlon.out _).mono ?_); rintro e w' ⟨rfl, hb'⟩; replace hbe := hbe.trans (hb'.mono hbe.size); clear hb')
        | (go_at_call 12; (with_reducible refine (works_any _).mono ?_); rintro e w' ⟨rfl, hb'⟩; replace hbe := hbe.trans (hb'.mono hbe.size); clear hb'))
      go_ret
      exact ⟨rfl, hbe⟩
    · have hc0 := two_some (n := n) (by omega)
      rw [hcle] at hc0
      obtain ⟨y, hy⟩ : ∃ y, longV [] ((2 : Nat) : Int) (d : Int) = y := ⟨_, rfl⟩
      have hlon := Lib.hid (show ∀ w', Calls Try.prog 21 #[.string ⟨#[]⟩, .int .i64 2, .int .i64 d] w' fun e w2 => e = .returned (.tuple #[.string ⟨y.toArray⟩, .int .i64 12]) ∧ Below w'.heap.size w' w2 from fun w' => (hl0 w').mono (by
        rintro e w2 ⟨rfl, hb⟩
        exact ⟨by rw [← hlf, ← hy]; rfl, hb⟩))
      have hci : ((cl : Int) == 0) = false := by simp; omega
      have h1 : ¬ (3 : Int) < n := by omega
      have h2 : decide ((d : Int) ≤ 3) = false := by simp; omega
      clear h0 hnt hd hc0
      clear hcle hl0 hy hlf
      go_enter Try.func9, Try.ntmps9
      go_wp2_with (first
        | (go_at_call 23; (with_reducible refine (hcnt.out _).mono ?_); rintro e w' ⟨rfl, hb'⟩; replace hbe := hbe.trans (hb'.mono hbe.size); clear hb')
        | (go_at_call 43; (with_reducible refine (hcl.out _).mono ?_); rintro e w' ⟨v', rfl, hv', hb'⟩
           obtain ⟨A', c', rfl, hr'⟩ := hv'.reads
           rw [hclH.out]
           replace hbe := hbe.trans (hb'.mono hbe.size)
           clear hb' hv' hr')
        | (go_at_call 21; (with_reducible refine (hlon.out _).mono ?_); rintro e w' ⟨rfl, hb'⟩; replace hbe := hbe.trans (hb'.mono hbe.size); clear hb')
        | (go_at_call 12; (with_reducible refine (works_any _).mono ?_); rintro e w' ⟨rfl, hb'⟩; replace hbe := hbe.trans (hb'.mono hbe.size); clear hb'))
      go_ret
      exact ⟨rfl, hbe⟩
set_option maxRecDepth 100000 in
set_option maxHeartbeats 4000000 in
theorem counted_3 (a b : Nat) (n : Nat) (hn10 : n ≤ 10) (ha : Int.tmod (a : Int) 4 = 2) (ha2 : (a : Int) % 4 = 2) (hb : Int.tmod (b : Int) 11 = n) (hb2 : (b : Int) % 11 = n) (hab : (a : Int) ≤ 255) (hbb : (b : Int) ≤ 255) (w : World) : Calls Try.prog 9 #[.int .u8 a, .int .u8 b] w fun e w' => e = .returned (.bool true) ∧ Below w.heap.size w w' := by
  have hbe := Below.refl w.heap.size w
  have hni : (n : Int) ≤ 10 := by omega
  have hcl := Lib.hid (show ∀ w', Calls Try.prog 43 #[.int .i64 3, .int .i64 n] w' (RetS (clB 3 n) w') from fun w' => clears_any 3 (by omega) n hn10 w')
  have hcnt := Lib.hid (show ∀ w', Calls Try.prog 23 #[.int .i64 3, .int .i64 n] w' fun e w2 => e = .returned (.tuple #[.int .i64 ((clB 3 n).length : Nat), .int .i64 0]) ∧ Below w'.heap.size w' w2 from fun w' => cnt_at (k := 3) (by omega) (by omega) hn10 w')
  obtain ⟨cl, hcle⟩ : ∃ cl, (clB 3 n).length = cl := ⟨_, rfl⟩
  rw [hcle] at hcnt
  have hclH := Lib.hid hcle
  have hl0 := fun w' => Longer_any ⟨#[]⟩ 3 ((4 * n : Nat) : Int) w'
  obtain ⟨d, hd⟩ : ∃ d, 4 * n = d := ⟨_, rfl⟩
  have hdi : 4 * (n : Int) = d := by omega
  rw [hd] at hl0
  have hlw := long_word (k := 3) (d := d) (by omega) (by omega) (by omega)
  obtain ⟨y, hy⟩ : ∃ y, longV [] ((3 : Nat) : Int) (d : Int) = y := ⟨_, rfl⟩
  have hlon := Lib.hid (show ∀ w', Calls Try.prog 21 #[.string ⟨#[]⟩, .int .i64 3, .int .i64 d] w' fun e w2 => e = .returned (.tuple #[.string ⟨y.toArray⟩, .int .i64 0]) ∧ Below w'.heap.size w' w2 from fun w' => (hl0 w').mono (by
    rintro e w2 ⟨rfl, hb⟩
    exact ⟨by rw [← hlw.1, ← hy]; rfl, hb⟩))
  rw [hy] at hlw
  obtain ⟨_, hyl, hyc⟩ := hlw
  have hyz : (⟨y.toArray⟩ : ByteArray).size = d := hyl
  have hyd : y.length = d := hyl
  have htw := Lib.hid (fun w' => twice_any ⟨y.toArray⟩ (by omega) w')
  have htw0 := Lib.hid (show (twL (bts ⟨y.toArray⟩)).length = 0 by
    have := tw_clean y
    rw [hyc, List.isEmpty_iff] at this
    show (twL y).length = 0
    rw [this]; rfl)
  have hc0 := three_some (k := 3) (n := n) (by omega) (by omega) hn10
  rw [hcle] at hc0
  have hci : ((cl : Int) == 0) = false := by simp; omega
  clear hcle hl0 hy hyc hc0 hyl hd
  go_enter Try.func9, Try.ntmps9
  go_wp2_with (first
    | (go_at_call 23; (with_reducible refine (hcnt.out _).mono ?_); rintro e w' ⟨rfl, hb'⟩; replace hbe := hbe.trans (hb'.mono hbe.size); clear hb')
    | (go_at_call 43; (with_reducible refine (hcl.out _).mono ?_); rintro e w' ⟨v', rfl, hv', hb'⟩
       obtain ⟨A', c', rfl, hr'⟩ := hv'.reads
       rw [hclH.out]
       replace hbe := hbe.trans (hb'.mono hbe.size)
       clear hb' hv' hr')
    | (go_at_call 21; (with_reducible refine (hlon.out _).mono ?_); rintro e w' ⟨rfl, hb'⟩; replace hbe := hbe.trans (hb'.mono hbe.size); clear hb')
    | (go_at_call 41; (with_reducible refine (htw.out _).mono ?_); rintro e w' ⟨v', rfl, hv', hb'⟩
       obtain ⟨A', c', rfl⟩ := hv'.form
       rw [htw0.out]
       replace hbe := hbe.trans (hb'.mono hbe.size)
       clear hb' hv')
    | (go_at_call 12; (with_reducible refine (works_any _).mono ?_); rintro e w' ⟨rfl, hb'⟩; replace hbe := hbe.trans (hb'.mono hbe.size); clear hb'))
  go_ret
  exact ⟨rfl, hbe⟩
set_option maxRecDepth 100000 in
set_option maxHeartbeats 4000000 in
theorem counted_4 (a b : Nat) (n : Nat) (hn10 : n ≤ 10) (ha : Int.tmod (a : Int) 4 = 3) (ha2 : (a : Int) % 4 = 3) (m : Nat) (hb : Int.tmod (b : Int) 11 = m) (hb2 : (b : Int) % 11 = m) (hm1 : Int.tmod (m : Int) 7 = n) (hm2 : (m : Int) % 7 = n) (hab : (a : Int) ≤ 255) (hbb : (b : Int) ≤ 255) (w : World) : Calls Try.prog 9 #[.int .u8 a, .int .u8 b] w fun e w' => e = .returned (.bool true) ∧ Below w.heap.size w w' := by
  have hbe := Below.refl w.heap.size w
  have hni : (n : Int) ≤ 10 := by omega
  have hcl := Lib.hid (show ∀ w', Calls Try.prog 43 #[.int .i64 4, .int .i64 n] w' (RetS (clB 4 n) w') from fun w' => clears_any 4 (by omega) n hn10 w')
  have hcnt := Lib.hid (show ∀ w', Calls Try.prog 23 #[.int .i64 4, .int .i64 n] w' fun e w2 => e = .returned (.tuple #[.int .i64 ((clB 4 n).length : Nat), .int .i64 0]) ∧ Below w'.heap.size w' w2 from fun w' => cnt_at (k := 4) (by omega) (by omega) hn10 w')
  obtain ⟨cl, hcle⟩ : ∃ cl, (clB 4 n).length = cl := ⟨_, rfl⟩
  rw [hcle] at hcnt
  have hclH := Lib.hid hcle
  have hl0 := fun w' => Longer_any ⟨#[]⟩ 4 ((4 * n : Nat) : Int) w'
  obtain ⟨d, hd⟩ : ∃ d, 4 * n = d := ⟨_, rfl⟩
  have hdi : 4 * (n : Int) = d := by omega
  rw [hd] at hl0
  have hlw := long_word (k := 4) (d := d) (by omega) (by omega) (by omega)
  obtain ⟨y, hy⟩ : ∃ y, longV [] ((4 : Nat) : Int) (d : Int) = y := ⟨_, rfl⟩
  have hlon := Lib.hid (show ∀ w', Calls Try.prog 21 #[.string ⟨#[]⟩, .int .i64 4, .int .i64 d] w' fun e w2 => e = .returned (.tuple #[.string ⟨y.toArray⟩, .int .i64 0]) ∧ Below w'.heap.size w' w2 from fun w' => (hl0 w').mono (by
    rintro e w2 ⟨rfl, hb⟩
    exact ⟨by rw [← hlw.1, ← hy]; rfl, hb⟩))
  rw [hy] at hlw
  obtain ⟨_, hyl, hyc⟩ := hlw
  have hyz : (⟨y.toArray⟩ : ByteArray).size = d := hyl
  have hyd : y.length = d := hyl
  have htw := Lib.hid (fun w' => twice_any ⟨y.toArray⟩ (by omega) w')
  have htw0 := Lib.hid (show (twL (bts ⟨y.toArray⟩)).length = 0 by
    have := tw_clean y
    rw [hyc, List.isEmpty_iff] at this
    show (twL y).length = 0
    rw [this]; rfl)
  have hc0 := three_some (k := 4) (n := n) (by omega) (by omega) hn10
  rw [hcle] at hc0
  have hci : ((cl : Int) == 0) = false := by simp; omega
  clear hcle hl0 hy hyc hc0 hyl hd
  go_enter Try.func9, Try.ntmps9
  go_wp2_with (first
    | (go_at_call 23; (with_reducible refine (hcnt.out _).mono ?_); rintro e w' ⟨rfl, hb'⟩; replace hbe := hbe.trans (hb'.mono hbe.size); clear hb')
    | (go_at_call 43; (with_reducible refine (hcl.out _).mono ?_); rintro e w' ⟨v', rfl, hv', hb'⟩
       obtain ⟨A', c', rfl, hr'⟩ := hv'.reads
       rw [hclH.out]
       replace hbe := hbe.trans (hb'.mono hbe.size)
       clear hb' hv' hr')
    | (go_at_call 21; (with_reducible refine (hlon.out _).mono ?_); rintro e w' ⟨rfl, hb'⟩; replace hbe := hbe.trans (hb'.mono hbe.size); clear hb')
    | (go_at_call 41; (with_reducible refine (htw.out _).mono ?_); rintro e w' ⟨v', rfl, hv', hb'⟩
       obtain ⟨A', c', rfl⟩ := hv'.form
       rw [htw0.out]
       replace hbe := hbe.trans (hb'.mono hbe.size)
       clear hb' hv')
    | (go_at_call 12; (with_reducible refine (works_any _).mono ?_); rintro e w' ⟨rfl, hb'⟩; replace hbe := hbe.trans (hb'.mono hbe.size); clear hb'))
  go_ret
  exact ⟨rfl, hbe⟩
theorem counted_law (x0 x1 : Int) (w : World) (hb0 : 0 ≤ x0 ∧ x0 ≤ 255) (hb1 : 0 ≤ x1 ∧ x1 ≤ 255) : Calls Try.prog 9 #[.int .u8 x0, .int .u8 x1] w fun e w' => e = .returned (.bool true) ∧ Below w.heap.size w w' := by
  obtain ⟨a, rfl⟩ : ∃ a : Nat, x0 = a := ⟨x0.toNat, by omega⟩
  obtain ⟨b, rfl⟩ : ∃ b : Nat, x1 = b := ⟨x1.toNat, by omega⟩
  obtain ⟨ha1, ha2⟩ := mod_facts a 4
  obtain ⟨hc1, hc2⟩ := mod_facts b 11
  obtain ⟨r, hr⟩ : ∃ r, a % 4 = r := ⟨_, rfl⟩
  obtain ⟨n, hn⟩ : ∃ n, b % 11 = n := ⟨_, rfl⟩
  rw [hr] at ha1 ha2
  rw [hn] at hc1 hc2
  have hn10 : n ≤ 10 := by omega
  rcases (show r = 0 ∨ r = 1 ∨ r = 2 ∨ r = 3 by omega) with rfl | rfl | rfl | rfl
  · exact counted_1 a b n hn10 ha2 ha1 hc2 hc1 hb0.2 hb1.2 w
  · exact counted_2 a b n hn10 ha2 ha1 hc2 hc1 hb0.2 hb1.2 w
  · exact counted_3 a b n hn10 ha2 ha1 hc2 hc1 hb0.2 hb1.2 w
  · obtain ⟨q1, q2⟩ := mod_facts n 7
    exact counted_4 a b (n % 7) (by omega) ha2 ha1 n hc2 hc1 q2 q1 hb0.2 hb1.2 w
end Go.Proofs.Ytdaaiockkbolbaa
