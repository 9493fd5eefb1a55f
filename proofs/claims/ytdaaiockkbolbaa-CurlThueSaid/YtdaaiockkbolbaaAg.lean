/- against. -/
import Derived.Test.YtdaaiockkbolbaaAgC
namespace Go.Proofs.Ytdaaiockkbolbaa
open Go.RowKit
/-- the first proof of at most k letters, or nothing -/
def agS (ws : List ByteArray) (n : Nat) : Nat → Word
  | 0 => []
  | k + 1 => if (agS ws n k).isEmpty then (runW (stepA ws) n (k + 1) [] []).2 else agS ws n k
theorem agS_stay {ws : List ByteArray} {n j : Nat} (h : (agS ws n j).isEmpty = false) : ∀ k, agS ws n (j + k) = agS ws n j := by
  intro k
  induction k with
  | zero => rfl
  | succ k ih => rw [← Nat.add_assoc, agS, ih, h]; rfl
set_option maxRecDepth 100000 in
set_option maxHeartbeats 4000000 in
theorem against_any (A : Option Addr) (n c : Nat) (ws : List ByteArray) (w : World) (B : Nat) (hB : B ≤ w.heap.size) (hr : RStrs w B A n ws) (hn : n ≤ 4) (hws : ∀ t ∈ ws, t.size ≤ 13) :
    Calls Try.prog 71 #[.agg #[.slice A n c]] w fun e w' => e = .returned (.string ⟨(agS ws n 3).toArray⟩) ∧ Below w.heap.size w w' := by
  have hwsH := Lib.hid hws
  clear hws
  go_enter Try.func71, Try.ntmps71
  go_wp2_with (first
    | (with_reducible show wpList _ _ _ (⟨_, .box 38 _, _, _, _, _⟩ :: _) _ _
       refine wpList_box_blk rfl 38 _ rfl #[.slice A n c] rfl ?_
       intro w1 g hG hgr hge
       have hk1 := Rk.box hB hr hG hgr
       have hg := hk1.bk.lt
       have hRB := hk1.b
       have hs1 := hk1.be.size
       clear hG hgr))
  have hP1 : Blk (w1.alloc (.cells #[.string ⟨#[]⟩] 9)) w1.heap.size 9 #[strOf []] := Blk.new w1 9 #[.string ⟨#[]⟩]
  have hk2 : Rk 38 w (w1.alloc (.cells #[.string ⟨#[]⟩] 9)) g A n c ws B := hk1.call ((Below.refl _ w1).alloc (Nat.le_refl _) _)
  go_loopw [4] (fun v wr => ∃ i j : Nat, j + 1 = i ∧ j ≤ 3 ∧ v = .int .i64 i ∧ Blk wr w1.heap.size 9 #[strOf (agS ws n j)] ∧ Rk 38 w wr g A n c ws B) (fun v _ => 5 - (intOf v).toNat)
  case atStart => exact ⟨1, 0, rfl, by omega, rfl, hP1, hk2⟩
  case round =>
    obtain ⟨i, j, hij, hj3, rfl, hP, hk⟩ := hrel
    have cg := hk.cell
    have cp := hP.cell 0
    obtain ⟨s, hs⟩ : ∃ s, agS ws n j = s := ⟨_, rfl⟩
    rw [hs] at hP cp
    have hsH := Lib.hid hs
    by_cases hi : j < 3
    · have hi3 : (i : Int) ≤ 3 := by omega
      cases he : s.isEmpty with
      | true =>
        obtain rfl : s = [] := by cases s with
          | nil => rfl
          | cons a l => cases he
        have hN := Lib.hid (show agS ws n i = (runW (stepA ws) n i [] []).2 by rw [← hij, agS, hs]; rfl)
        have h4 : 0 + 4 ^ i ≤ 1000 := by
          have : 4 ^ i ≤ 4 ^ 3 := Nat.pow_le_pow_right (by omega) (by omega)
          have h3 : (4 : Nat) ^ 3 = 64 := by decide
          omega
        clear hs he
        go_wp2_with (first
          | (go_at_call 55
             refine (walk_any (againstEach wr g w1.heap.size A n c ws B i hk.bk hk.rs (by omega) (by omega) hn hwsH.out (by omega)) hn (by omega) i (fun q => q ≤ w1.heap.size) [] wr _ none [] h4 (by simp) rfl ⟨⟨hP, fun _ _ => rfl⟩, fun _ => Iff.rfl⟩ (Row8.nil wr) (fun g hg => by cases hg)).mono ?_
             rintro e w3 ⟨O3, rfl, hI3, _, hF3, _⟩))
        go_roundw
        case rel => exact ⟨i + 1, i, rfl, by omega, by go_num, by rw [hN.out]; exact hI3.1.1, ⟨hk.be.trans ⟨hF3.os, hF3.tape, hF3.output, hF3.size, fun q hq => hI3.1.2 q (by omega)⟩, hk.rs.keep (fun q hq => World.cell?_of_block (hI3.1.2 q.block (by omega))), (hI3.1.2 g (by omega)).trans hk.bk, hk.bl⟩⟩
        case measure => simp only [intOf]; omega
      | false =>
        have hR := Lib.hid (show agS ws n 3 = s by rw [← hs, show 3 = j + (3 - j) by omega]; exact agS_stay (by rw [hs]; exact he) _)
        clear hs
        go_wp2_with (fail)
        go_ret
        exact ⟨by rw [hR.out]; rfl, hk.be⟩
    · have hi3 : ¬ (i : Int) ≤ 3 := by omega
      have hR := Lib.hid (show agS ws n 3 = s by rw [← hs, show j = 3 by omega])
      clear hs
      go_wp2_with (fail)
      go_ret
      exact ⟨by rw [hR.out]; rfl, hk.be⟩
end Go.Proofs.Ytdaaiockkbolbaa
