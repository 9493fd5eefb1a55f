/- Position, Distance, At of the program. -/
import Derived.Test.YtjhcemhnnkcjaaaDoorApi1
import Derived.Test.YtjhcemhnnkcjaaaDoorStep
namespace Go.Proofs.YtjhcemhnnkcjaaaDoor
open Go.RowKit
def posE (r n : Int) : Int := if 1 ≤ r ∧ r ≤ 16 ∧ 0 ≤ n ∧ n < 2 ^ r.toNat then 0 else 1
def posL (r n : Int) : List Int := if posE r n = 0 then grayS r.toNat n.toNat else []
theorem pow16 {r : Nat} (h : r ≤ 16) : 2 ^ r ≤ 65536 := by
  have : 2 ^ r ≤ 2 ^ 16 := Nat.pow_le_pow_right (by omega) h
  omega
theorem posE_in {r n : Nat} (h1 : 1 ≤ r) (h2 : r ≤ 16) (h3 : n < 2 ^ r) : posE r n = 0 := by
  rw [posE, if_pos]; exact ⟨by omega, by omega, by omega, by simp only [Int.toNat_natCast]; exact_mod_cast h3⟩
theorem posE_out {r n : Int} (h : ¬ (1 ≤ r ∧ r ≤ 16 ∧ 0 ≤ n ∧ n < 2 ^ r.toNat)) : posE r n = 1 := by rw [posE, if_neg h]
/-- what lies beyond the positions of so many rings, as the program asks it -/
theorem shr_big {r n : Nat} (h : 2 ^ r ≤ n) : (0 : Int) < (n : Int) / 2 ^ r := by
  have h1 : 0 < n / 2 ^ r := Nat.div_pos h (Nat.pow_pos (by omega))
  have h2 : ((n / 2 ^ r : Nat) : Int) = (n : Int) / 2 ^ r := by simp
  omega
theorem shr_small {r n : Nat} (h : n < 2 ^ r) : (n : Int) / 2 ^ r = 0 := by
  have h2 : ((n / 2 ^ r : Nat) : Int) = (n : Int) / 2 ^ r := by simp
  rw [← h2, Nat.div_eq_of_lt h]; rfl
set_option maxHeartbeats 2000000 in
theorem Position_any (r n : Int) (h1 : -9223372036854775808 ≤ n) (h2 : n ≤ 9223372036854775807) (w : World) :
    Calls Tryd.prog 18 #[.int .i64 r, .int .i64 n] w (RetL (posL r n) (posE r n) w) := by
  by_cases hr1 : r < 1
  · have hE := posE_out (r := r) (n := n) (by omega)
    have hL : posL r n = [] := by rw [posL, hE]; rfl
    rw [hE, hL]
    clear hE hL
    go_enter Tryd.func18, Tryd.ntmps18
    go_wp2_with (fail)
    go_ret2
    exact RetL_nil (Below.refl _ _)
  by_cases hr2 : 16 < r
  · have hE := posE_out (r := r) (n := n) (by omega)
    have hL : posL r n = [] := by rw [posL, hE]; rfl
    rw [hE, hL]
    clear hE hL
    go_enter Tryd.func18, Tryd.ntmps18
    go_wp2_with (fail)
    go_ret2
    exact RetL_nil (Below.refl _ _)
  by_cases hn0 : n < 0
  · have hE := posE_out (r := r) (n := n) (by omega)
    have hL : posL r n = [] := by rw [posL, hE]; rfl
    rw [hE, hL]
    clear hE hL
    go_enter Tryd.func18, Tryd.ntmps18
    go_wp2_with (fail)
    go_ret2
    exact RetL_nil (Below.refl _ _)
  obtain ⟨k, rfl⟩ : ∃ k : Nat, r = k := ⟨r.toNat, by omega⟩
  obtain ⟨m, rfl⟩ : ∃ m : Nat, n = m := ⟨n.toNat, by omega⟩
  clear hn0
  by_cases hb : 2 ^ k ≤ m
  · have hE := posE_out (r := k) (n := m) (by
      rintro ⟨_, _, _, h⟩
      simp only [Int.toNat_natCast] at h
      have : m < 2 ^ k := by exact_mod_cast h
      omega)
    have hL : posL k m = [] := by rw [posL, hE]; rfl
    have hs := shr_big hb
    rw [hE, hL]
    clear hE hL hb
    go_enter Tryd.func18, Tryd.ntmps18
    go_wp2_with (fail)
    go_ret2
    exact RetL_nil (Below.refl _ _)
  · have hE := posE_in (r := k) (n := m) (by omega) (by omega) (by omega)
    have hL : posL k m = grayS k m := by rw [posL, hE]; rfl
    have hs := shr_small (r := k) (n := m) (by omega)
    have hs' : ¬ (0 : Int) < (m : Int) / 2 ^ k := by omega
    have h16 := pow16 (r := k) (by omega)
    have hm16 : m < 65536 := by omega
    rw [hE, hL]
    have HB := Lib.hid hb
    clear hE hL hb hs h16
    go_enter Tryd.func18, Tryd.ntmps18
    go_wp2_with (first
      | (go_at_call 52; refine (numbered_any k m (by omega) hm16 _).mono ?_; rintro e w1 ⟨rfl, hb1⟩)
      | (go_at_call 53; refine (list_any k (grayS k m) (grayS_length _ _) (grayS_bin _ _) (by omega) (by omega) _).mono ?_; rintro e w2 ⟨g, rfl, hr2, hb2⟩))
    go_ret2
    exact ⟨_, _, _, rfl, hr2, by omega, hb1.trans (hb2.mono hb1.size)⟩

theorem walked_pre {A B : Option Addr} {n m : Nat} {xs ys : List Int} {w : World} {BL : Nat} (ha : RInts w BL A n xs) (hb : RInts w BL B m ys) (he : bothE xs ys = 0) :
    n = m ∧ chk xs = 0 ∧ chk ys = 0 ∧ numS xs < 2 ^ n ∧ numS ys < 2 ^ n ∧ 2 ^ n ≤ 65536 ∧ n ≤ 16 ∧ n ≠ 0 := by
  obtain ⟨hx, hy, hl⟩ := both_ok he
  have hz := chk_zero hx
  have e1 := ha.len
  have e2 := hb.len
  have l1 := numS_lt xs
  have l2 := numS_lt ys
  rw [e1] at l1 hz
  rw [e2] at l2
  have hnm : n = m := by omega
  subst hnm
  exact ⟨rfl, hx, hy, l1, l2, pow16 hz.2.1, hz.2.1, hz.1⟩
set_option maxHeartbeats 1000000 in
theorem Distance_any (A B : Option Addr) (n m c d : Nat) (xs ys : List Int) (w : World) (ha : RInts w w.heap.size A n xs) (hb : RInts w w.heap.size B m ys) (hn : n ≤ maxLen) (hm : m ≤ maxLen) :
    Calls Tryd.prog 23 #[.slice A n c, .slice B m d] w (RetI (if bothE xs ys = 0 then (distS (numS xs) (numS ys) : Int) else 0) (bothE xs ys) w) := by
  by_cases he : bothE xs ys = 0
  · obtain ⟨rfl, hx, hy, l1, l2, h16, _, _⟩ := walked_pre ha hb he
    rw [he, if_pos rfl]
    have hX := Lib.hid hx
    have hY := Lib.hid hy
    have k1 : numS xs < 65536 := by omega
    have k2 : numS ys < 65536 := by omega
    clear hx hy he l1 l2 h16
    go_enter Tryd.func23, Tryd.ntmps23
    go_wp2_with (first
      | (go_at_call 56; refine (walked_ok A B n c d xs ys w ha hb hn hX.out hY.out).mono ?_; rintro e w1 ⟨rfl, hb1⟩; unfold walkC)
      | (go_at_call 57; refine (size_any _ _ _ k1 k2 _).mono ?_; rintro e w2 ⟨rfl, hb2⟩))
    go_ret2
    exact ⟨rfl, (hb1.alloc hb1.size _).trans (hb2.mono (by simp; have := hb1.size; omega))⟩
  · have hE := Lib.hid he
    have hbb : (bothE xs ys != 0) = true := by simpa using he
    rw [if_neg he]
    clear he
    go_enter Tryd.func23, Tryd.ntmps23
    go_wp2_with (first
      | (go_at_call 56; refine (walked_bad A B n m c d xs ys w ha hb hn hm hE.out).mono ?_; rintro e w1 ⟨rfl, hb1⟩; unfold walkC))
    go_ret2
    exact ⟨rfl, hb1.alloc hb1.size _⟩

def atE (xs ys : List Int) (k : Int) : Int := if bothE xs ys ≠ 0 then bothE xs ys else if k < 0 ∨ (distS (numS xs) (numS ys) : Int) < k then 1 else 0
def atL (xs ys : List Int) (k : Int) : List Int := if atE xs ys k = 0 then grayS xs.length (if numS ys < numS xs then numS xs - k.toNat else numS xs + k.toNat) else []
set_option maxHeartbeats 2000000 in
theorem At_any (A B : Option Addr) (n m c d : Nat) (xs ys : List Int) (k : Int) (w : World) (ha : RInts w w.heap.size A n xs) (hb : RInts w w.heap.size B m ys) (hn : n ≤ maxLen) (hm : m ≤ maxLen) :
    Calls Tryd.prog 33 #[.slice A n c, .slice B m d, .int .i64 k] w (RetL (atL xs ys k) (atE xs ys k) w) := by
  by_cases he : bothE xs ys = 0
  · obtain ⟨rfl, hx, hy, l1, l2, h16, hn16, hn0⟩ := walked_pre ha hb he
    have hX := Lib.hid hx
    have hY := Lib.hid hy
    have hL := Lib.hid ha.len
    have k1 : numS xs < 65536 := by omega
    have k2 : numS ys < 65536 := by omega
    clear hx hy
    by_cases hk0 : k < 0
    · have hE : atE xs ys k = 1 := by simp [atE, he, hk0]
      have hLi : atL xs ys k = [] := by simp [atL, hE]
      rw [hE, hLi]
      clear hE hLi he l1 l2 h16
      go_enter Tryd.func33, Tryd.ntmps33
      go_wp2_with (first
        | (go_at_call 56; refine (walked_ok A B n c d xs ys w ha hb hn hX.out hY.out).mono ?_; rintro e w1 ⟨rfl, hb1⟩; unfold walkC))
      go_ret2
      exact RetL_nil (hb1.alloc hb1.size _)
    obtain ⟨j, rfl⟩ : ∃ j : Nat, k = j := ⟨k.toNat, by omega⟩
    clear hk0
    by_cases hkd : distS (numS xs) (numS ys) < j
    · have hE : atE xs ys j = 1 := by
        have : (distS (numS xs) (numS ys) : Int) < (j : Int) := by omega
        simp [atE, he, this]
      have hLi : atL xs ys j = [] := by simp [atL, hE]
      rw [hE, hLi]
      clear hE hLi he l1 l2 h16
      go_enter Tryd.func33, Tryd.ntmps33
      go_wp2_with (first
        | (go_at_call 56; refine (walked_ok A B n c d xs ys w ha hb hn hX.out hY.out).mono ?_; rintro e w1 ⟨rfl, hb1⟩; unfold walkC)
        | (go_at_call 57; refine (size_any _ _ _ k1 k2 _).mono ?_; rintro e w2 ⟨rfl, hb2⟩))
      go_ret2
      exact RetL_nil ((hb1.alloc hb1.size _).trans (hb2.mono (by simp; have := hb1.size; omega)))
    have hE : atE xs ys j = 0 := by
      have : ¬ (distS (numS xs) (numS ys) : Int) < (j : Int) := by omega
      simp [atE, he, this]
    by_cases hlt : numS ys < numS xs
    · have hLi : atL xs ys j = grayS n (numS xs - j) := by simp [atL, hE, hlt, hL.out]
      have hs : numS xs - j < 65536 := by omega
      have hj : j ≤ numS xs := by unfold distS at hkd; omega
      rw [hE, hLi]
      have HD := Lib.hid hkd
      clear hE hLi he l1 l2 h16
      go_enter Tryd.func33, Tryd.ntmps33
      go_wp2_with (first
        | (go_at_call 56; refine (walked_ok A B n c d xs ys w ha hb hn hX.out hY.out).mono ?_; rintro e w1 ⟨rfl, hb1⟩; unfold walkC)
        | (go_at_call 57; refine (size_any _ _ _ k1 k2 _).mono ?_; rintro e w2 ⟨rfl, hb2⟩
           obtain ⟨q0, q1, q2⟩ := stepS_of (Blk.below (Blk.new w1 78 (walkC n (numS xs) (numS ys))) hb2 (by simp)))
        | (go_at_call 52; rw [show ((numS xs : Int) - (j : Int)) = ((numS xs - j : Nat) : Int) by omega]; refine (numbered_any n (numS xs - j) hn16 hs _).mono ?_; rintro e w3 ⟨rfl, hb3⟩)
        | (go_at_call 53; refine (list_any n (grayS n (numS xs - j)) (grayS_length _ _) (grayS_bin _ _) hn16 hn0 _).mono ?_; rintro e w4 ⟨g, rfl, hr4, hb4⟩))
      go_ret2
      have hba := (hb1.alloc hb1.size _).trans (hb2.mono (by simp; have := hb1.size; omega))
      have hbb := hba.trans (hb3.mono hba.size)
      exact ⟨_, _, _, rfl, hr4, by omega, hbb.trans (hb4.mono hbb.size)⟩
    · have hLi : atL xs ys j = grayS n (numS xs + j) := by simp [atL, hE, hlt, hL.out]
      have hs : numS xs + j < 65536 := by unfold distS at hkd; omega
      rw [hE, hLi]
      have HD := Lib.hid hkd
      clear hE hLi he l1 l2 h16
      go_enter Tryd.func33, Tryd.ntmps33
      go_wp2_with (first
        | (go_at_call 56; refine (walked_ok A B n c d xs ys w ha hb hn hX.out hY.out).mono ?_; rintro e w1 ⟨rfl, hb1⟩; unfold walkC)
        | (go_at_call 57; refine (size_any _ _ _ k1 k2 _).mono ?_; rintro e w2 ⟨rfl, hb2⟩
           obtain ⟨q0, q1, q2⟩ := stepS_of (Blk.below (Blk.new w1 78 (walkC n (numS xs) (numS ys))) hb2 (by simp)))
        | (go_at_call 52; rw [show ((numS xs : Int) + (j : Int)) = ((numS xs + j : Nat) : Int) by omega]; refine (numbered_any n (numS xs + j) hn16 hs _).mono ?_; rintro e w3 ⟨rfl, hb3⟩)
        | (go_at_call 53; refine (list_any n (grayS n (numS xs + j)) (grayS_length _ _) (grayS_bin _ _) hn16 hn0 _).mono ?_; rintro e w4 ⟨g, rfl, hr4, hb4⟩))
      go_ret2
      have hba := (hb1.alloc hb1.size _).trans (hb2.mono (by simp; have := hb1.size; omega))
      have hbb := hba.trans (hb3.mono hba.size)
      exact ⟨_, _, _, rfl, hr4, by omega, hbb.trans (hb4.mono hbb.size)⟩
  · have hE := Lib.hid he
    have hbb : (bothE xs ys != 0) = true := by simpa using he
    have hAE : atE xs ys k = bothE xs ys := by simp [atE, he]
    have hLi : atL xs ys k = [] := by simp [atL, hAE, he]
    rw [hAE, hLi]
    clear he hAE hLi
    go_enter Tryd.func33, Tryd.ntmps33
    go_wp2_with (first
      | (go_at_call 56; refine (walked_bad A B n m c d xs ys w ha hb hn hm hE.out).mono ?_; rintro e w1 ⟨rfl, hb1⟩; unfold walkC))
    go_ret2
    exact RetL_nil (hb1.alloc hb1.size _)
end Go.Proofs.YtjhcemhnnkcjaaaDoor
