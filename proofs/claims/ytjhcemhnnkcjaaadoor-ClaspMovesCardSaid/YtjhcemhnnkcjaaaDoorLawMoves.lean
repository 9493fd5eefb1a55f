/- The law ClaspMoves, walked: it returns true. -/
import Derived.Test.YtjhcemhnnkcjaaaDoorLawA
namespace Go.Proofs.YtjhcemhnnkcjaaaDoor
open Go.RowKit
set_option maxRecDepth 100000 in
set_option maxHeartbeats 1000000 in
theorem moves_law (A : Option Addr) (n c : Nat) (xs : List Int) (r : Int) (w : World) (ha : RInts w w.heap.size A n xs) (hn : n ≤ maxLen) (hT : Tab w) :
    Calls Tryd.prog 12 #[.slice A n c, .int .i64 r] w fun e w' => e = .returned (.bool true) ∧ Below w.heap.size w w' := by
  have hS := (Wk.start hT).add ha
  by_cases hb : 60 < n
  · have hG : Hid ((decide (60 < n) || decide (60 < 0) || decide (1200 < 0)) = true) := Lib.hid (by simp [hb])
    clear hb
    go_enter Tryd.func12, Tryd.ntmps12
    go_wp2_with (first
      | (go_at_call 14; refine (large_any A none none n 0 0 c 0 0 _ hn (by decide) (by decide)).mono ?_; rintro e w1 ⟨rfl, rfl⟩; rw [hG.out])
      | (go_at_call 15; refine (v_works hS).mono ?_; rintro e w1 ⟨rfl, hS2⟩; replace hS := hS2; clear hS2))
    go_ret
    exact ⟨rfl, hS.2.1⟩
  · have hG : Hid ((decide (60 < n) || decide (60 < 0) || decide (1200 < 0)) = false) := Lib.hid (by simp [hb])
    clear hb
    have _k1 := hT
    have _k2 := hT
    go_enter Tryd.func12, Tryd.ntmps12
    go_wp2_with (first
      | (go_at_call 14; refine (large_any A none none n 0 0 c 0 0 _ hn (by decide) (by decide)).mono ?_; rintro e w1 ⟨rfl, rfl⟩; rw [hG.out])
      | (go_at_call 41; refine (v_moves hS (.head _) hn).mono ?_; rintro e w1 ⟨x1A, x1n, x1c, rfl, hx1, hS2⟩; replace hS := hS2; clear hS2)
      | (go_at_call 43; refine (r_moves hS (.tail _ (.head _)) hn).mono ?_; rintro e w1 ⟨x2A, x2n, x2c, rfl, hx2, hS2⟩; replace hS := hS2; clear hS2)
      | (go_at_call 44; refine (v_move hS (.tail _ (.tail _ (.head _))) hn r).mono ?_; rintro e w1 ⟨x3A, x3n, x3c, rfl, hx3, hS2⟩; replace hS := hS2; clear hS2)
      | (go_at_call 45; refine (r_move hS (.tail _ (.tail _ (.tail _ (.head _)))) hn r).mono ?_; rintro e w1 ⟨x4A, x4n, x4c, rfl, hx4, hS2⟩; replace hS := hS2; clear hS2)
      | (go_at_call 22; clear _k1; refine (v_same hS (.tail _ (.tail _ (.tail _ (.head _)))) (.tail _ (.tail _ (.head _))) hx1).mono ?_; rintro e w1 ⟨rfl, hS2⟩; replace hS := hS2; clear hS2)
      | (go_at_call 22; clear _k2; refine (v_same hS (.tail _ (.head _)) (.head _) hx3).mono ?_; rintro e w1 ⟨rfl, hS2⟩; replace hS := hS2; clear hS2)
      | (go_at_call 46; refine (v_check hS (.tail _ (.tail _ (.tail _ (.tail _ (.head _))))) hn).mono ?_; rintro e w1 ⟨rfl, hS2⟩; replace hS := hS2; clear hS2)
      | (go_at_call 47; refine (r_check hS (.tail _ (.tail _ (.tail _ (.tail _ (.head _))))) hn).mono ?_; rintro e w1 ⟨rfl, hS2⟩; replace hS := hS2; clear hS2)
      | (go_at_call 15; refine (v_works hS).mono ?_; rintro e w1 ⟨rfl, hS2⟩; replace hS := hS2; clear hS2))
    go_ret
    exact ⟨rfl, hS.2.1⟩
end Go.Proofs.YtjhcemhnnkcjaaaDoor
