/- The law ClaspPairs, walked: it returns true. -/
import Derived.Test.YtjhcemhnnkcjaaaDoorLawA
namespace Go.Proofs.YtjhcemhnnkcjaaaDoor
open Go.RowKit
theorem zero_pairR (w : World) : (zeroValue 41).run Tryd.prog w = .ok (.agg (pairC none 0 0 none 0 0)) w := Tryd.zeroValue41 w
theorem pairC_one (A : Option Addr) (n c : Nat) (B : Option Addr) (m d : Nat) : (pairC A n c B m d).all (·.oneCell') = true := by simp [pairC, Value.oneCell']
set_option maxRecDepth 100000 in
set_option maxHeartbeats 1000000 in
theorem pairs_law (A B : Option Addr) (n m c d : Nat) (xs ys : List Int) (w : World) (ha : RInts w w.heap.size A n xs) (hb : RInts w w.heap.size B m ys) (hn : n ≤ maxLen) (hm : m ≤ maxLen) (hT : Tab w) :
    Calls Tryd.prog 6 #[.agg (pairC A n c B m d)] w fun e w' => e = .returned (.bool true) ∧ Below w.heap.size w w' := by
  cases hg : (decide (60 < n) || decide (60 < m) || decide (1200 < 0))
  case true =>
    have hG := Lib.hid hg
    clear hg
    go_enter Tryd.func6, Tryd.ntmps6
    go_wp2_with (first
      | (with_reducible show wpList _ _ _ (⟨some 1, .box 40 _, _, _, _, _⟩ :: _) _ _
         refine wpList_box_blk rfl 40 _ rfl (pairC A n c B m d) rfl ?_
         intro w0 g1 hP1 hg0 hs0
         have hBe0 : Below w.heap.size w w0 := below_none (Below.refl _ _) hg0 (Nat.le_refl _)
         obtain ⟨c0, c1⟩ := pairC_0 hP1
         have ha0 := (ha.below hBe0).more hBe0.size
         have hb0 := (hb.below hBe0).more hBe0.size
         have hS := ((Wk.start (hT.later hBe0)).add ha0).add hb0
         clear hg0 hs0)
      | (go_at_call 14; refine (large_any A B none n m 0 c d 0 _ hn hm (by decide)).mono ?_; rintro e w1 ⟨rfl, rfl⟩; rw [hG.out])
      | (go_at_call 15; refine (v_works hS).mono ?_; rintro e w1 ⟨rfl, hS2⟩; replace hS := hS2; clear hS2))
    go_ret
    exact ⟨rfl, hBe0.trans (hS.2.1.mono hBe0.size)⟩
  case false =>
    have hG := Lib.hid hg
    clear hg
    have _k1 := hT
    go_enter Tryd.func6, Tryd.ntmps6
    go_wp2_with (first
      | (with_reducible show wpList _ _ _ (⟨some 1, .box 40 _, _, _, _, _⟩ :: _) _ _
         refine wpList_box_blk rfl 40 _ rfl (pairC A n c B m d) rfl ?_
         intro w0 g1 hP1 hg0 hs0
         have hBe0 : Below w.heap.size w w0 := below_none (Below.refl _ _) hg0 (Nat.le_refl _)
         obtain ⟨c0, c1⟩ := pairC_0 hP1
         have ha0 := (ha.below hBe0).more hBe0.size
         have hb0 := (hb.below hBe0).more hBe0.size
         have hS := ((Wk.start (hT.later hBe0)).add ha0).add hb0
         clear hg0 hs0)
      | (with_reducible show wpList _ _ _ (⟨some 18, .load 40 _, _, _, _, _⟩ :: _) _ _
         refine wpList_load_blk rfl 40 _ rfl g1 rfl 40 _ _ hP1 Tryd.underlying40 rfl (info_pair _ _ _ _ _ _) ?_)
      | (with_reducible show wpList _ _ _ (⟨_, .alloc 41, _, _, _, _⟩ :: _) _ _
         refine wpList_alloc_blk rfl 41 rfl _ zero_pairR ?_
         intro w2 g3 hQ2 hg2 hs2
         have hBe2 := below_none hBe0 hg2 hBe0.size
         have hP2 := hP1.none_ hg2
         have hne : g1 ≠ g3 := by have := hP1.lt; omega
         have hge : w.heap.size ≤ g3 := by have := hBe0.size; omega
         clear hS)
      | (with_reducible show wpList _ _ _ (⟨_, .store 41 _ _, _, _, _, _⟩ :: _) _ _
         refine wpList_store_blk rfl 41 _ _ rfl g3 (pairC A n c B m d) rfl rfl 41 (pairC none 0 0 none 0 0) hQ2 (info_pairR _ _ _ _ _ _) rfl (pairC_one _ _ _ _ _ _) ?_
         intro w3 hQ3 hg3
         have hBe3 := below_some hBe2 hg3 hBe2.size hge
         have hP3 := hP2.some_ hg3 hne
         have hS := ((Wk.start (hT.later hBe3)).add ((ha.below hBe3).more hBe3.size)).add ((hb.below hBe3).more hBe3.size)
         clear hg2 hg3)
      | (with_reducible show wpList _ _ _ (⟨some 20, .load 40 _, _, _, _, _⟩ :: _) _ _
         refine wpList_load_blk rfl 40 _ rfl g1 rfl 40 _ _ (hP3.below hS.2.1 hP3.lt) Tryd.underlying40 rfl (info_pair _ _ _ _ _ _) ?_)
      | (with_reducible show wpList _ _ _ (⟨some 30, .load 40 _, _, _, _, _⟩ :: _) _ _
         refine wpList_load_blk rfl 40 _ rfl g1 rfl 40 _ _ (hP3.below hS.2.1 hP3.lt) Tryd.underlying40 rfl (info_pair _ _ _ _ _ _) ?_)
      | (with_reducible show wpList _ _ _ (⟨some 25, .load 41 _, _, _, _, _⟩ :: _) _ _
         refine wpList_load_blk rfl 41 _ rfl g3 rfl 41 _ _ (hQ3.below hS.2.1 hQ3.lt) Tryd.underlying41 rfl (info_pairR _ _ _ _ _ _) ?_)
      | (with_reducible show wpList _ _ _ (⟨some 35, .load 41 _, _, _, _, _⟩ :: _) _ _
         refine wpList_load_blk rfl 41 _ rfl g3 rfl 41 _ _ (hQ3.below hS.2.1 hQ3.lt) Tryd.underlying41 rfl (info_pairR _ _ _ _ _ _) ?_)
      | (go_at_call 14; refine (large_any A B none n m 0 c d 0 _ hn hm (by decide)).mono ?_; rintro e w1 ⟨rfl, rfl⟩; rw [hG.out])
      | (go_at_call 35; refine (v_together hS (.tail _ (.head _)) hn (.head _) hm).mono ?_; rintro e w1 ⟨rfl, hS2⟩; replace hS := hS2; clear hS2)
      | (go_at_call 36; refine (r_together hS (.tail _ (.head _)) hn (.head _) hm).mono ?_; rintro e w1 ⟨rfl, hS2⟩; replace hS := hS2; clear hS2)
      | (go_at_call 37; refine (v_turns hS (.tail _ (.head _)) hn (.head _) hm).mono ?_; rintro e w1 ⟨x1A, x1n, x1c, rfl, hx1, hS2⟩; replace hS := hS2; clear hS2)
      | (go_at_call 38; refine (r_turns hS (.tail _ (.tail _ (.head _))) hn (.tail _ (.head _)) hm).mono ?_; rintro e w1 ⟨x2A, x2n, x2c, rfl, hx2, hS2⟩; replace hS := hS2; clear hS2)
      | (go_at_call 22; clear _k1; refine (v_same hS (.tail _ (.head _)) (.head _) hx1).mono ?_; rintro e w1 ⟨rfl, hS2⟩; replace hS := hS2; clear hS2)
      | (go_at_call 15; refine (v_works hS).mono ?_; rintro e w1 ⟨rfl, hS2⟩; replace hS := hS2; clear hS2))
    go_ret
    exact ⟨rfl, hBe3.trans (hS.2.1.mono hBe3.size)⟩
end Go.Proofs.YtjhcemhnnkcjaaaDoor
