/- The reference's Check: it returns the error of a position. -/
import Derived.Test.YtjhcemhnnkcjaaaDoorProg
import Derived.Test.YtjhcemhnnkcjaaaDoorPlain
import Derived.Deep.QuietTactic
import Derived.BigQuiet
namespace Go.Proofs.YtjhcemhnnkcjaaaDoor
open Go.RowKit
set_option maxHeartbeats 400000 in
theorem refCheck_any (A : Option Addr) (n c : Nat) (xs : List Int) (w : World) (BL : Nat) (ha : RInts w BL A n xs) (hn : n ≤ maxLen) :
    Calls Tryd.prog 47 #[.slice A n c] w fun e w' => e = .returned (.int .i64 (chk xs)) ∧ ∃ q, w' = w.drewN q := by
  unfold maxLen at hn
  have hxl := Lib.hid ha.len
  by_cases h0 : n = 0
  · subst h0
    have hP := Lib.hid (chk_empty hxl.out)
    go_enter Tryd.func47, Tryd.ntmps47
    go_wp2
    go_ret
    exact ⟨by rw [hP.out]; rfl, 0, rfl⟩
  by_cases h1 : 16 < n
  · have hP := Lib.hid (chk_many (by rw [hxl.out]; exact h1))
    go_enter Tryd.func47, Tryd.ntmps47
    go_wp2
    go_ret
    exact ⟨by rw [hP.out]; rfl, 0, rfl⟩
  have hb : ((n : Int) == 0) = false := by simp; omega
  go_enter Tryd.func47, Tryd.ntmps47
  go_wp2
  go_loopw [3] (fun i wr => ∃ k q : Nat, k ≤ n ∧ i = .int .i64 k ∧ Hid ((xs.take k).all okx = true) ∧ wr = w.drewN q) (fun i _ => n - (intOf i).toNat)
  case atStart => exact ⟨0, 0, by omega, rfl, rfl, rfl⟩
  case round =>
    obtain ⟨k, q, hk, rfl, hT, rfl⟩ := hrel
    by_cases hlt : k < n
    · obtain ⟨ad, x, rfl, _, h1, hx⟩ := ha.at_ hlt
      by_cases ho : okx x = true
      · have hS := Lib.hid (all_step hT.out hx.out ho)
        by_cases e0 : x = 0
        · subst e0
          clear ho
          go_wp2_with (fail)
          go_wp2
          go_roundw
          case rel => exact ⟨k + 1, _, by omega, by go_num, hS, rfl⟩
          case measure => simp [intOf]; omega
        · obtain rfl : x = 1 := by simp [okx] at ho; omega
          clear ho
          go_wp2_with (fail)
          go_wp2
          go_roundw
          case rel => exact ⟨k + 1, _, by omega, by go_num, hS, rfl⟩
          case measure => simp [intOf]; omega
      · have hP := Lib.hid (chk_bad (by rw [hxl.out]; exact h0) (by rw [hxl.out]; assumption) hx.out (by simpa using ho))
        have b0 : (x != 0) = true := by simp [okx] at ho; simp; omega
        have b1 : (x != 1) = true := by simp [okx] at ho; simp; omega
        clear ho
        go_wp2_with (fail)
        go_wp2
        go_ret
        exact ⟨by rw [hP.out]; rfl, _, rfl⟩
    · have hP := Lib.hid (chk_ok (by rw [hxl.out]; exact h0) (by rw [hxl.out]; exact h1) (all_end hT.out (by rw [hxl.out]; omega)))
      go_wp2
      go_ret
      exact ⟨by rw [hP.out]; rfl, _, rfl⟩
end Go.Proofs.YtjhcemhnnkcjaaaDoor
