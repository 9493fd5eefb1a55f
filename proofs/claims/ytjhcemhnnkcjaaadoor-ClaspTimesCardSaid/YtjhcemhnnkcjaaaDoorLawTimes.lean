/- The law ClaspTimes, walked: it returns true. -/
import Derived.Test.YtjhcemhnnkcjaaaDoorLawA
namespace Go.Proofs.YtjhcemhnnkcjaaaDoor
open Go.RowKit
set_option maxRecDepth 100000 in
set_option maxHeartbeats 1000000 in
theorem times_law (A B : Option Addr) (n m c d : Nat) (xs ys : List Int) (r : Int) (w : World) (ha : RInts w w.heap.size A n xs) (hb : RInts w w.heap.size B m ys) (hn : n ≤ maxLen) (hm : m ≤ maxLen) (hT : Tab w) :
    Calls Tryd.prog 5 #[.slice A n c, .slice B m d, .int .i64 r] w fun e w' => e = .returned (.bool true) ∧ Below w.heap.size w w' := by
  have hS := ((Wk.start hT).add ha).add hb
  have hn63 := hn
  unfold maxLen at hn63
  cases hg : (decide (60 < n) || decide (60 < m) || decide (1200 < 0))
  case true =>
    have hG := Lib.hid hg
    clear hg
    go_enter Tryd.func5, Tryd.ntmps5
    go_wp2_with (first
      | (go_at_call 14; refine (large_any A B none n m 0 c d 0 _ hn hm (by decide)).mono ?_; rintro e w1 ⟨rfl, rfl⟩; rw [hG.out])
      | (go_at_call 15; refine (v_works hS).mono ?_; rintro e w1 ⟨rfl, hS2⟩; replace hS := hS2; clear hS2))
    go_ret
    exact ⟨rfl, hS.2.1⟩
  case false =>
    have hG := Lib.hid hg
    clear hg
    by_cases h12 : 12 < n
    · by_cases h16 : n ≤ 16
      · have h12' : (12 : Int) < n := by omega
        have h16' : (n : Int) ≤ 16 := by omega
        go_enter Tryd.func5, Tryd.ntmps5
        go_wp2_with (first
          | (go_at_call 14; refine (large_any A B none n m 0 c d 0 _ hn hm (by decide)).mono ?_; rintro e w1 ⟨rfl, rfl⟩; rw [hG.out])
          | (go_at_call 15; refine (v_works hS).mono ?_; rintro e w1 ⟨rfl, hS2⟩; replace hS := hS2; clear hS2))
        go_ret
        exact ⟨rfl, hS.2.1⟩
      · have h12' : (12 : Int) < n := by omega
        have h16' : ¬ (n : Int) ≤ 16 := by omega
        have _k1 := hT
        have _k2 := hT
        go_enter Tryd.func5, Tryd.ntmps5
        go_wp2_with (first
          | (go_at_call 14; refine (large_any A B none n m 0 c d 0 _ hn hm (by decide)).mono ?_; rintro e w1 ⟨rfl, rfl⟩; rw [hG.out])
          | (go_at_call 31; refine (v_times hS (.tail _ (.head _)) hn (.head _) hm).mono ?_; rintro e w1 ⟨x1A, x1n, x1c, rfl, hx1, hS2⟩; replace hS := hS2; clear hS2)
          | (go_at_call 32; refine (r_times hS (.tail _ (.tail _ (.head _))) hn (.tail _ (.head _)) hm).mono ?_; rintro e w1 ⟨x2A, x2n, x2c, rfl, hx2, hS2⟩; replace hS := hS2; clear hS2)
          | (go_at_call 33; refine (v_at hS (.tail _ (.tail _ (.tail _ (.head _)))) hn (.tail _ (.tail _ (.head _))) hm r).mono ?_; rintro e w1 ⟨x3A, x3n, x3c, rfl, hx3, hS2⟩; replace hS := hS2; clear hS2)
          | (go_at_call 34; refine (r_at hS (.tail _ (.tail _ (.tail _ (.tail _ (.head _))))) hn (.tail _ (.tail _ (.tail _ (.head _)))) hm r).mono ?_; rintro e w1 ⟨x4A, x4n, x4c, rfl, hx4, hS2⟩; replace hS := hS2; clear hS2)
          | (go_at_call 22; clear _k1; refine (v_same hS (.tail _ (.tail _ (.tail _ (.head _)))) (.tail _ (.tail _ (.head _))) hx1).mono ?_; rintro e w1 ⟨rfl, hS2⟩; replace hS := hS2; clear hS2)
          | (go_at_call 22; clear _k2; refine (v_same hS (.tail _ (.head _)) (.head _) hx3).mono ?_; rintro e w1 ⟨rfl, hS2⟩; replace hS := hS2; clear hS2)
          | (go_at_call 15; refine (v_works hS).mono ?_; rintro e w1 ⟨rfl, hS2⟩; replace hS := hS2; clear hS2))
        go_ret
        exact ⟨rfl, hS.2.1⟩
    · have h12' : ¬ (12 : Int) < n := by omega
      have _k1 := hT
      have _k2 := hT
      go_enter Tryd.func5, Tryd.ntmps5
      go_wp2_with (first
        | (go_at_call 14; refine (large_any A B none n m 0 c d 0 _ hn hm (by decide)).mono ?_; rintro e w1 ⟨rfl, rfl⟩; rw [hG.out])
        | (go_at_call 31; refine (v_times hS (.tail _ (.head _)) hn (.head _) hm).mono ?_; rintro e w1 ⟨x1A, x1n, x1c, rfl, hx1, hS2⟩; replace hS := hS2; clear hS2)
        | (go_at_call 32; refine (r_times hS (.tail _ (.tail _ (.head _))) hn (.tail _ (.head _)) hm).mono ?_; rintro e w1 ⟨x2A, x2n, x2c, rfl, hx2, hS2⟩; replace hS := hS2; clear hS2)
        | (go_at_call 33; refine (v_at hS (.tail _ (.tail _ (.tail _ (.head _)))) hn (.tail _ (.tail _ (.head _))) hm r).mono ?_; rintro e w1 ⟨x3A, x3n, x3c, rfl, hx3, hS2⟩; replace hS := hS2; clear hS2)
        | (go_at_call 34; refine (r_at hS (.tail _ (.tail _ (.tail _ (.tail _ (.head _))))) hn (.tail _ (.tail _ (.tail _ (.head _)))) hm r).mono ?_; rintro e w1 ⟨x4A, x4n, x4c, rfl, hx4, hS2⟩; replace hS := hS2; clear hS2)
        | (go_at_call 22; clear _k1; refine (v_same hS (.tail _ (.tail _ (.tail _ (.head _)))) (.tail _ (.tail _ (.head _))) hx1).mono ?_; rintro e w1 ⟨rfl, hS2⟩; replace hS := hS2; clear hS2)
        | (go_at_call 22; clear _k2; refine (v_same hS (.tail _ (.head _)) (.head _) hx3).mono ?_; rintro e w1 ⟨rfl, hS2⟩; replace hS := hS2; clear hS2)
        | (go_at_call 15; refine (v_works hS).mono ?_; rintro e w1 ⟨rfl, hS2⟩; replace hS := hS2; clear hS2))
      go_ret
      exact ⟨rfl, hS.2.1⟩
end Go.Proofs.YtjhcemhnnkcjaaaDoor
