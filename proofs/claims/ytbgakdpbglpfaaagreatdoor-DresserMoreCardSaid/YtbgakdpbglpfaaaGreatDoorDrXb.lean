/- The law's own same and texts: lists are compared. (Printed by gensame.py.) -/
import Derived.Test.YtbgakdpbglpfaaaGreatDoorDrXa
import Derived.Deep.QuietTactic
import Derived.BigQuiet
namespace Go.Proofs.YtbgakdpbglpfaaaGreatDoor
open Go.RowKit
namespace Dr
set_option linter.unusedSimpArgs false
theorem same_eq {n : Nat} {xs ys : List Int} (hx : xs.length = n) (hy : ys.length = n) (h : xs.take n = ys.take n) : xs = ys := by
  rwa [List.take_of_length_le (by omega), List.take_of_length_le (by omega)] at h
theorem same_step {k : Nat} {xs ys : List Int} {x : Int} (h : xs.take k = ys.take k) (hx : xs[k]? = some x) (hy : ys[k]? = some x) : xs.take (k + 1) = ys.take (k + 1) := by
  rw [List.take_add_one, List.take_add_one, h, hx, hy]
theorem same_ne {k : Nat} {xs ys : List Int} {x y : Int} (hx : xs[k]? = some x) (hy : ys[k]? = some y) (he : x ≠ y) : decide (xs = ys) = false := by
  refine decide_eq_false ?_; rintro rfl; rw [hx] at hy; exact he (by injection hy)
set_option maxRecDepth 100000 in
set_option maxHeartbeats 1000000 in
theorem same_any (A B : Option Addr) (n m c d : Nat) (xs ys : List Int) (w : World) (BL : Nat) (ha : RInts w BL A n xs) (hb : RInts w BL B m ys) (hn : n ≤ maxLen) (hm : m ≤ maxLen) :
    Calls Tryz.prog 46 #[.slice A n c, .slice B m d] w fun e w' => e = .returned (.bool (decide (xs = ys))) ∧ ∃ q, w' = w.drewN q := by
  unfold maxLen at hn hm
  have hxl := Lib.hid ha.len
  have hyl := Lib.hid hb.len
  by_cases hnm : n = m
  · subst hnm
    have hnn : ((n : Int) != n) = false := by simp
    go_enter Tryz.func46, Tryz.ntmps46
    go_wp2_with (fail)
    go_loopw [5] (fun i wr => ∃ k q : Nat, k ≤ n ∧ i = .int .i64 k ∧ Hid (xs.take k = ys.take k) ∧ wr = w.drewN q) (fun i _ => n - (intOf i).toNat)
    case atStart => exact ⟨0, 0, by omega, rfl, rfl, rfl⟩
    case round =>
      obtain ⟨k, q, hk, rfl, hT, rfl⟩ := hrel
      by_cases hlt : k < n
      · have hlti : (k : Int) < n := by omega
        have hk0 : (0 : Int) ≤ k := by omega
        obtain ⟨ad, x, rfl, _, h1, hx⟩ := ha.at_ hlt
        obtain ⟨bd, y, rfl, _, h2, hy⟩ := hb.at_ hlt
        by_cases he : x = y
        · subst he
          have hS := Lib.hid (same_step hT.out hx.out hy.out)
          have hB : (x != x) = false := by simp
          go_wp2_with (fail)
          go_quiet (fail)
          go_wp2_with (fail)
          go_roundw
          case rel => exact ⟨k + 1, _, by omega, by go_num, hS, rfl⟩
          case measure => simp only [intOf]; omega
        · have hB : (x != y) = true := by simpa using he
          have hN := Lib.hid (same_ne hx.out hy.out he)
          go_wp2_with (fail)
          go_quiet (fail)
          go_wp2_with (fail)
          go_ret
          exact ⟨by rw [hN.out]; rfl, _, World.drewN_drewN _ _ _⟩
      · have hkn : k = n := by omega
        subst hkn
        have hlti : ¬ (k : Int) < k := by omega
        have hE := Lib.hid (same_eq hxl.out hyl.out hT.out)
        go_wp2_with (fail)
        go_ret
        exact ⟨by rw [decide_eq_true hE.out]; rfl, _, rfl⟩
  · have hN : Hid (decide (xs = ys) = false) := by refine decide_eq_false ?_; rintro rfl; exact hnm (hxl.out.symm.trans hyl.out)
    have hB : ((n : Int) != (m : Int)) = true := by simp; omega
    go_enter Tryz.func46, Tryz.ntmps46
    go_wp2_with (fail)
    go_ret
    exact ⟨by rw [hN.out]; rfl, 0, rfl⟩
theorem texts_eq {n : Nat} {xs ys : List ByteArray} (hx : xs.length = n) (hy : ys.length = n) (h : xs.take n = ys.take n) : xs = ys := by
  rwa [List.take_of_length_le (by omega), List.take_of_length_le (by omega)] at h
theorem texts_step {k : Nat} {xs ys : List ByteArray} {x : ByteArray} (h : xs.take k = ys.take k) (hx : xs[k]? = some x) (hy : ys[k]? = some x) : xs.take (k + 1) = ys.take (k + 1) := by
  rw [List.take_add_one, List.take_add_one, h, hx, hy]
theorem texts_ne {k : Nat} {xs ys : List ByteArray} {x y : ByteArray} (hx : xs[k]? = some x) (hy : ys[k]? = some y) (he : x ≠ y) : decide (xs = ys) = false := by
  refine decide_eq_false ?_; rintro rfl; rw [hx] at hy; exact he (by injection hy)
set_option maxRecDepth 100000 in
set_option maxHeartbeats 1000000 in
theorem texts_any (A B : Option Addr) (n m c d : Nat) (xs ys : List ByteArray) (w : World) (BL : Nat) (ha : RStrs w BL A n xs) (hb : RStrs w BL B m ys) (hn : n ≤ maxLen) (hm : m ≤ maxLen) :
    Calls Tryz.prog 22 #[.slice A n c, .slice B m d] w fun e w' => e = .returned (.bool (decide (xs = ys))) ∧ ∃ q, w' = w.drewN q := by
  unfold maxLen at hn hm
  have hxl := Lib.hid ha.len
  have hyl := Lib.hid hb.len
  by_cases hnm : n = m
  · subst hnm
    have hnn : ((n : Int) != n) = false := by simp
    go_enter Tryz.func22, Tryz.ntmps22
    go_wp2_with (fail)
    go_loopw [5] (fun i wr => ∃ k q : Nat, k ≤ n ∧ i = .int .i64 k ∧ Hid (xs.take k = ys.take k) ∧ wr = w.drewN q) (fun i _ => n - (intOf i).toNat)
    case atStart => exact ⟨0, 0, by omega, rfl, rfl, rfl⟩
    case round =>
      obtain ⟨k, q, hk, rfl, hT, rfl⟩ := hrel
      by_cases hlt : k < n
      · have hlti : (k : Int) < n := by omega
        have hk0 : (0 : Int) ≤ k := by omega
        obtain ⟨ad, x, rfl, _, h1, hx⟩ := ha.at_ hlt
        obtain ⟨bd, y, rfl, _, h2, hy⟩ := hb.at_ hlt
        by_cases he : x = y
        · subst he
          have hS := Lib.hid (texts_step hT.out hx.out hy.out)
          have hB : (x.toList == x.toList) = true := by rw [str_eq]; exact decide_eq_true rfl
          go_wp2_with (fail)
          go_quiet (fail)
          go_wp2_with (fail)
          go_roundw
          case rel => exact ⟨k + 1, _, by omega, by go_num, hS, rfl⟩
          case measure => simp only [intOf]; omega
        · have hB : (x.toList == y.toList) = false := by rw [str_eq]; exact decide_eq_false he
          have hN := Lib.hid (texts_ne hx.out hy.out he)
          go_wp2_with (fail)
          go_quiet (fail)
          go_wp2_with (fail)
          go_ret
          exact ⟨by rw [hN.out]; rfl, _, World.drewN_drewN _ _ _⟩
      · have hkn : k = n := by omega
        subst hkn
        have hlti : ¬ (k : Int) < k := by omega
        have hE := Lib.hid (texts_eq hxl.out hyl.out hT.out)
        go_wp2_with (fail)
        go_ret
        exact ⟨by rw [decide_eq_true hE.out]; rfl, _, rfl⟩
  · have hN : Hid (decide (xs = ys) = false) := by refine decide_eq_false ?_; rintro rfl; exact hnm (hxl.out.symm.trans hyl.out)
    have hB : ((n : Int) != (m : Int)) = true := by simp; omega
    go_enter Tryz.func22, Tryz.ntmps22
    go_wp2_with (fail)
    go_ret
    exact ⟨by rw [hN.out]; rfl, 0, rfl⟩
end Dr
end Go.Proofs.YtbgakdpbglpfaaaGreatDoor
