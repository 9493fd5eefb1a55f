/- The law ClaspWays, walked: it returns true. -/
import Derived.Test.YtjhcemhnnkcjaaaDoorLawA
namespace Go.Proofs.YtjhcemhnnkcjaaaDoor
open Go.RowKit
set_option maxRecDepth 100000 in
set_option maxHeartbeats 1000000 in
theorem ways_law (A B E : Option Addr) (n m k c d f : Nat) (xs ys zs : List Int) (w : World) (ha : RInts w w.heap.size A n xs) (hb : RInts w w.heap.size B m ys) (hz : RInts w w.heap.size E k zs) (hn : n ≤ maxLen) (hm : m ≤ maxLen) (hk : k ≤ maxLen) (hT : Tab w) :
    Calls Tryd.prog 4 #[.slice A n c, .slice B m d, .slice E k f] w fun e w' => e = .returned (.bool true) ∧ Below w.heap.size w w' := by
  have hS := (((Wk.start hT).add ha).add hb).add hz
  cases hg : (decide (60 < n) || decide (60 < m) || decide (1200 < k))
  case true =>
    have hG := Lib.hid hg
    clear hg
    go_enter Tryd.func4, Tryd.ntmps4
    go_wp2_with (first
      | (go_at_call 14; refine (large_any A B E n m k c d f _ hn hm hk).mono ?_; rintro e w1 ⟨rfl, rfl⟩; rw [hG.out])
      | (go_at_call 15; refine (v_works hS).mono ?_; rintro e w1 ⟨rfl, hS2⟩; replace hS := hS2; clear hS2))
    go_ret
    exact ⟨rfl, hS.2.1⟩
  case false =>
    have hG := Lib.hid hg
    clear hg
    have _k1 := hT
    go_enter Tryd.func4, Tryd.ntmps4
    go_wp2_with (first
      | (go_at_call 14; refine (large_any A B E n m k c d f _ hn hm hk).mono ?_; rintro e w1 ⟨rfl, rfl⟩; rw [hG.out])
      | (go_at_call 23; refine (v_distance hS (.tail _ (.tail _ (.head _))) hn (.tail _ (.head _)) hm).mono ?_; rintro e w1 ⟨rfl, hS2⟩; replace hS := hS2; clear hS2)
      | (go_at_call 24; refine (r_distance hS (.tail _ (.tail _ (.head _))) hn (.tail _ (.head _)) hm).mono ?_; rintro e w1 ⟨rfl, hS2⟩; replace hS := hS2; clear hS2)
      | (go_at_call 25; refine (v_next hS (.tail _ (.tail _ (.head _))) hn (.tail _ (.head _)) hm).mono ?_; rintro e w1 ⟨rfl, hS2⟩; replace hS := hS2; clear hS2)
      | (go_at_call 26; refine (r_next hS (.tail _ (.tail _ (.head _))) hn (.tail _ (.head _)) hm).mono ?_; rintro e w1 ⟨rfl, hS2⟩; replace hS := hS2; clear hS2)
      | (go_at_call 27; refine (v_way hS (.tail _ (.tail _ (.head _))) hn (.tail _ (.head _)) hm).mono ?_; rintro e w1 ⟨x1A, x1n, x1c, rfl, hx1, hS2⟩; replace hS := hS2; clear hS2)
      | (go_at_call 28; refine (r_way hS (.tail _ (.tail _ (.tail _ (.head _)))) hn (.tail _ (.tail _ (.head _))) hm).mono ?_; rintro e w1 ⟨x2A, x2n, x2c, rfl, hx2, hS2⟩; replace hS := hS2; clear hS2)
      | (go_at_call 22; clear _k1; refine (v_same hS (.tail _ (.head _)) (.head _) hx1).mono ?_; rintro e w1 ⟨rfl, hS2⟩; replace hS := hS2; clear hS2)
      | (go_at_call 29; refine (v_leads hS (.tail _ (.tail _ (.tail _ (.tail _ (.head _))))) hn (.tail _ (.tail _ (.tail _ (.head _)))) hm (.tail _ (.tail _ (.head _))) hk).mono ?_; rintro e w1 ⟨rfl, hS2⟩; replace hS := hS2; clear hS2)
      | (go_at_call 30; refine (r_leads hS (.tail _ (.tail _ (.tail _ (.tail _ (.head _))))) hn (.tail _ (.tail _ (.tail _ (.head _)))) hm (.tail _ (.tail _ (.head _))) hk).mono ?_; rintro e w1 ⟨rfl, hS2⟩; replace hS := hS2; clear hS2)
      | (go_at_call 15; refine (v_works hS).mono ?_; rintro e w1 ⟨rfl, hS2⟩; replace hS := hS2; clear hS2))
    go_ret
    exact ⟨rfl, hS.2.1⟩
end Go.Proofs.YtjhcemhnnkcjaaaDoor
