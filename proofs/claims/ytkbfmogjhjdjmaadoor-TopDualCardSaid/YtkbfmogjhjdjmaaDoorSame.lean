/- The law's own 'same': two lists of ints are compared. -/
import Derived.Test.YtkbfmogjhjdjmaaDoorProg
import Derived.Test.YtkbfmogjhjdjmaaDoorKit
import Derived.Deep.QuietTactic
import Derived.BigQuiet
namespace Go.Proofs.YtkbfmogjhjdjmaaDoor
open Go.RowKit

theorem eq_of_takes {n : Nat} {xs ys : List Int} (hx : xs.length = n) (hy : ys.length = n) (h : xs.take n = ys.take n) : xs = ys := by
  rwa [List.take_of_length_le (by omega), List.take_of_length_le (by omega)] at h
theorem take_step {k : Nat} {xs ys : List Int} {x : Int} (h : xs.take k = ys.take k) (hx : xs[k]? = some x) (hy : ys[k]? = some x) : xs.take (k + 1) = ys.take (k + 1) := by
  rw [List.take_add_one, List.take_add_one, h, hx, hy]
theorem ne_of_get {k : Nat} {xs ys : List Int} {x y : Int} (hx : xs[k]? = some x) (hy : ys[k]? = some y) (he : x ≠ y) : (xs == ys) = false := by
  rw [beq_eq_false_iff_ne]; rintro rfl; rw [hx] at hy; exact he (by injection hy)

set_option maxHeartbeats 400000 in
theorem same_any (A B : Option Addr) (n m c d : Nat) (xs ys : List Int) (w : World) (BL : Nat) (ha : RInts w BL A n xs) (hb : RInts w BL B m ys) (hn : n ≤ maxLen) (hm : m ≤ maxLen) :
    Calls Tryd.prog 33 #[.slice A n c, .slice B m d] w fun e w' => e = .returned (.bool (xs == ys)) ∧ ∃ q, w' = w.drewN q := by
  unfold maxLen at hn hm
  have hxl := Lib.hid ha.len
  have hyl := Lib.hid hb.len
  by_cases hnm : n = m
  · subst hnm
    go_enter Tryd.func33, Tryd.ntmps33
    go_wp2
    go_loopw [13] (fun i wr => ∃ k q : Nat, k ≤ n ∧ i = .int .i64 k ∧ Hid (xs.take k = ys.take k) ∧ wr = w.drewN q) (fun i _ => n - (intOf i).toNat)
    case atStart => exact ⟨0, 0, by omega, rfl, rfl, rfl⟩
    case round =>
      obtain ⟨k, q, hk, rfl, hT, rfl⟩ := hrel
      by_cases hlt : k < n
      · obtain ⟨ad, x, rfl, _, h1, hx⟩ := ha.at_ hlt
        obtain ⟨bd, y, rfl, _, h2, hy⟩ := hb.at_ hlt
        by_cases he : x = y
        · subst he
          have hS := Lib.hid (take_step hT.out hx.out hy.out)
          have hB : (x != x) = false := by simp
          go_wp2_with (fail)
          go_quiet (fail)
          go_wp2
          go_roundw
          case rel => exact ⟨k + 1, _, by omega, by go_num, hS, rfl⟩
          case measure => simp [intOf]; omega
        · have hB : (x != y) = true := by simpa using he
          have hN := Lib.hid (ne_of_get hx.out hy.out he)
          clear he
          go_wp2_with (fail)
          go_quiet (fail)
          go_wp2
          go_ret
          exact ⟨by rw [hN.out]; rfl, _, World.drewN_drewN _ _ _⟩
      · have hkn : k = n := by omega
        subst hkn
        have hE := Lib.hid (eq_of_takes hxl.out hyl.out hT.out)
        go_wp2
        go_ret
        exact ⟨by rw [hE.out]; simp, _, rfl⟩
  · have hN := Lib.hid (show (xs == ys) = false by rw [beq_eq_false_iff_ne]; rintro rfl; exact hnm (hxl.out.symm.trans hyl.out))
    have hB : ((n : Int) != (m : Int)) = true := by simp; omega
    go_enter Tryd.func33, Tryd.ntmps33
    go_wp2
    go_ret
    exact ⟨by rw [hN.out]; rfl, 0, rfl⟩
end Go.Proofs.YtkbfmogjhjdjmaaDoor
