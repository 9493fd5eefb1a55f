/- The reference's Times. -/
import Derived.Test.YtjhcemhnnkcjaaaDoorRefApi2
import Derived.Test.YtjhcemhnnkcjaaaDoorTimes
import Derived.Deep.CutRange
namespace Go.Proofs.YtjhcemhnnkcjaaaDoor
open Go.RowKit
theorem intArr_at' {xs : List Int} {k : Nat} {x : Int} (h : xs[k]? = some x) : (intArr xs)[k]? = some (.int .i64 x) := by rw [intArr_at, h]; rfl
/-- one ring of one move more: its count, and whether it is the ring that is moved -/
theorem timesM_inc {r lo n k : Nat} (hk : k < r) (hlo : lo ≤ n) : ∃ (V x y : Nat), V ≤ n ∧ (timesM r lo n k)[k]? = some (V : Int) ∧ (grayS r n)[k]? = some (x : Int) ∧ (grayS r (n + 1))[k]? = some (y : Int) ∧
    (x = y → timesM r lo n (k + 1) = timesM r lo n k) ∧ (x ≠ y → (timesM r lo n k).set k ((V + 1 : Nat) : Int) = timesM r lo n (k + 1)) := by
  have h1 := times_at (k := k) hlo
  have hV : ((n / 2 ^ k - lo / 2 ^ k) - (n / 2 ^ (k + 1) - lo / 2 ^ (k + 1))) ≤ n := Nat.le_trans (Nat.sub_le _ _) (Nat.le_trans (Nat.sub_le _ _) (Nat.div_le_self _ _))
  refine ⟨_, _, _, hV, by rw [timesM_at hk, timesN_at hk], grayS_at r n k hk, grayS_at r (n + 1) k hk, fun e => ?_, fun e => ?_⟩
  · rw [if_pos e] at h1
    exact timesM_skip hk (by rw [timesN_at hk, timesN_at hk, h1]; rfl)
  · rw [if_neg e] at h1
    exact timesM_set hk (by rw [timesN_at hk, h1])
theorem refPlace_B (r n : Nat) (hr : r ≤ 16) (hr0 : r ≠ 0) (hn : n < 65536) (y : Int) (hy : y = (n : Int)) (w : World) :
    Calls Tryd.prog 54 #[.int .i64 r, .int .i64 y] w fun e w' => ∃ g, e = .returned (.slice (some ⟨g, 0, none⟩) r r) ∧ Blk w' g 3 (intArr (grayS r n)) ∧ w.heap.size ≤ g ∧ Below w.heap.size w w' := by
  subst hy; exact refPlace_blk r n hr hr0 hn w
set_option maxRecDepth 100000 in
set_option maxHeartbeats 1000000 in
theorem refTimes_ok (A B : Option Addr) (n c d : Nat) (xs ys : List Int) (w : World) (ha : RInts w w.heap.size A n xs) (hb : RInts w w.heap.size B n ys) (hn : n ≤ maxLen) (he : bothE xs ys = 0) :
    Calls Tryd.prog 32 #[.slice A n c, .slice B n d] w (RetL (timesN n (min (numS xs) (numS ys)) (max (numS xs) (numS ys))) 0 w) := by
  obtain ⟨-, hx, hy, k1, k2, hn16, hn0⟩ := both_pre ha hb he
  have hX := Lib.hid hx
  have hY := Lib.hid hy
  have hE := Lib.hid he
  obtain ⟨a, hA⟩ : ∃ a, a = numS xs := ⟨_, rfl⟩
  obtain ⟨b, hB⟩ : ∃ b, b = numS ys := ⟨_, rfl⟩
  rw [← hA] at k1
  rw [← hB] at k2
  rw [← hA, ← hB]
  have hAA := Lib.hid hA
  have hBB := Lib.hid hB
  clear hx hy he hA hB
  have hmk := run_make_row' (P := Tryd.prog) 22 3 (.int .i64 0) 8 Tryd.underlying22 infoIr rfl .i64 .i64 n (by omega) (by omega)
  obtain ⟨lo, hlo⟩ : ∃ lo, lo = min a b := ⟨_, rfl⟩
  obtain ⟨hi, hhi⟩ : ∃ hi, hi = max a b := ⟨_, rfl⟩
  rw [← hlo, ← hhi]
  have hlh : lo ≤ hi := by omega
  have hi16 : hi < 65536 := by omega
  go_enter Tryd.func32, Tryd.ntmps32
  go_upto_region 5 with (first
    | (go_at_call 58
       refine (refBoth_any A B n n c d xs ys w _ ha hb hn hn).mono ?_
       rintro e w1 ⟨rfl, q1, rfl⟩
       rw [hE.out]))
  rw [intArr_made]
  go_cut [8, 9] from 10 (fun u v wx => u = .int .i64 (lo : Nat) ∧ v = .int .i64 (hi : Nat) ∧ Blk wx w.heap.size 3 (intArr (List.replicate n 0)) ∧ Below w.heap.size w wx)
  case first =>
    go_wp2_with (first
      | (go_at_call_of 51 (Value.slice A n c); refine (refNumber_any A n c xs _ w.heap.size (Reads.alloc (ha.drewN q1) (Nat.le_refl _) _) hn16 hX.out).mono ?_; rintro e w3 ⟨rfl, rfl⟩; rw [← hAA.out])
      | (go_at_call_of 51 (Value.slice B n d); refine (refNumber_any B n d ys _ w.heap.size (Reads.alloc (hb.drewN q1) (Nat.le_refl _) _) hn16 hY.out).mono ?_; rintro e w3 ⟨rfl, rfl⟩; rw [← hBB.out]))
    all_goals
      go_meet
      exact ⟨congrArg _ (by omega), congrArg _ (by omega), Blk.new _ _ _, (below_drewN (Below.refl _ _) q1).alloc (Nat.le_refl _) _⟩
  case rest =>
    obtain ⟨rfl, rfl, hB0, hBe0⟩ := hcut
    clear hlo hhi
    have hlenT := fun N => timesN_length n lo N
    go_wp2_with (fail)
    go_loopw [10] (fun i wr => ∃ N : Nat, lo ≤ N ∧ N ≤ hi ∧ i = .int .i64 N ∧ Blk wr w.heap.size 3 (intArr (timesN n lo N)) ∧ Below w.heap.size w wr) (fun i _ => hi - (intOf i).toNat)
    case atStart => exact ⟨lo, by omega, hlh, rfl, by rw [timesN_lo]; exact hB0, hBe0⟩
    case round =>
      clear hB0 hBe0
      obtain ⟨N, hN1, hN2, rfl, hO, hbe⟩ := hrel
      by_cases hlt : N < hi
      · have _t := hn
        go_wp2_with (first
          | (go_at_call 54
             clear _t
             refine (refPlace_blk n N hn16 hn0 (by omega) _).mono ?_
             rintro e w2 ⟨g1, rfl, hP1, hge1, hb2⟩
             have hO2 := hO.callee hb2
             have hbe2 := hbe.trans (hb2.mono hbe.size))
          | (go_at_call 54
             refine (refPlace_B n (N + 1) hn16 hn0 (by omega) _ (by omega) _).mono ?_
             rintro e w3 ⟨g2, rfl, hP2, hge2, hb3⟩
             have hO3 := hO2.callee hb3
             have hP13 := hP1.callee hb3
             have hbe3 := hbe2.trans (hb3.mono hbe2.size)))
        have hlt0 := hO.lt
        have hlt1 := hP1.lt
        have hne1 : g1 ≠ w.heap.size := by omega
        have hne2 : g2 ≠ w.heap.size := by have := hO2.lt; omega
        clear hO hO2 hbe hbe2 hb2 hb3 hge1 hge2 hP1 hlt0 hlt1
        go_loopw [13] (fun i wr => ∃ k : Nat, k ≤ n ∧ i = .int .i64 k ∧ Blk wr w.heap.size 3 (intArr (timesM n lo N k)) ∧ Blk wr g1 3 (intArr (grayS n N)) ∧ Blk wr g2 3 (intArr (grayS n (N + 1))) ∧ Below w.heap.size w wr) (fun i _ => n - (intOf i).toNat)
        case atStart => exact ⟨0, by omega, rfl, by rw [timesM_zero]; exact hO3, hP13, hP2, hbe3⟩
        case round =>
          clear hO3 hP13 hP2 hbe3
          obtain ⟨k, hk, rfl, hO, hP1, hP2, hbe⟩ := hrel
          by_cases hkn : k < n
          · obtain ⟨V, x, y, hV, hV1, hx, hy, hs, hd⟩ := timesM_inc hkn hN1
            have hcx : wr.cell? ⟨g1, k, none⟩ = some (.int .i64 (x : Int)) := by rw [hP1.cell, intArr_at' hx]
            have hcy : wr.cell? ⟨g2, k, none⟩ = some (.int .i64 (y : Int)) := by rw [hP2.cell, intArr_at' hy]
            have hV16 : V < 65536 := by omega
            by_cases hxy : x = y
            · subst hxy
              have hS := Lib.hid (hs rfl)
              clear hs hd hV1 hx hy
              go_wp2_with (fail)
              go_quiet (fail)
              go_wp2_with (fail)
              go_roundw
              case rel => exact ⟨k + 1, by omega, by go_num, by rw [hS.out]; exact hO.drewN _, hP1.drewN _, hP2.drewN _, below_drewN hbe _⟩
              case measure => simp [intOf]; omega
            · have hS := Lib.hid (hd hxy)
              have hVV := Lib.hid hV1
              have hxi : ((x : Int) == (y : Int)) = false := by simp; omega
              have hxi2 : ((x : Int) != (y : Int)) = true := by simp; omega
              clear hs hd hV1 hx hy
              go_wp2_with (fail)
              go_quiet (fail)
              have hO2 := hO.drewN nq
              have hP12 := hP1.drewN nq
              have hP22 := hP2.drewN nq
              have hbe2 := below_drewN hbe nq
              obtain ⟨wq, hwq⟩ : ∃ wq, wq = wr.drewN nq := ⟨_, rfl⟩
              rw [← hwq] at hO2 hP12 hP22 hbe2 ⊢
              clear hwq hcx hcy hO hP1 hP2 hbe
              have hco : wq.cell? ⟨w.heap.size, k, none⟩ = some (.int .i64 (V : Int)) := by rw [hO2.cell, intArr_at' hVV.out]
              have hfo := hO2.frozen k
              have hO3 := hO2.set_ k (.int .i64 ((V + 1 : Nat) : Int))
              rw [intArr_set, hS.out] at hO3
              have hP13 := hP12.far (p := ⟨w.heap.size, k, none⟩) hne1 (.int .i64 ((V + 1 : Nat) : Int))
              have hP23 := hP22.far (p := ⟨w.heap.size, k, none⟩) hne2 (.int .i64 ((V + 1 : Nat) : Int))
              have hbe3 := hbe2.setCell (p := ⟨w.heap.size, k, none⟩) (Nat.le_refl _) (.int .i64 ((V + 1 : Nat) : Int))
              go_wp2_with (fail)
              go_roundw
              case rel => exact ⟨k + 1, by omega, by go_num, hO3, hP13, hP23, hbe3⟩
              case measure => simp [intOf]; omega
          · obtain rfl : k = n := by omega
            rw [timesM_end] at hO
            go_wp2_with (fail)
            go_roundw
            case rel => exact ⟨N + 1, by omega, by omega, by go_num, hO, hbe⟩
            case measure => simp [intOf]; omega
      · obtain rfl : N = hi := by omega
        go_wp2_with (fail)
        go_ret2
        exact ⟨_, _, _, rfl, RInts.of_blk hO (timesN_length _ _ _), by omega, hbe⟩
set_option maxHeartbeats 400000 in
theorem refTimes_any (A B : Option Addr) (n m c d : Nat) (xs ys : List Int) (w : World) (ha : RInts w w.heap.size A n xs) (hb : RInts w w.heap.size B m ys) (hn : n ≤ maxLen) (hm : m ≤ maxLen) :
    Calls Tryd.prog 32 #[.slice A n c, .slice B m d] w (RetL (timesL xs ys) (bothE xs ys) w) := by
  by_cases he : bothE xs ys = 0
  · obtain ⟨rfl, _⟩ := both_pre ha hb he
    rw [timesL, if_pos he, he, ha.len]
    exact refTimes_ok A B n c d xs ys w ha hb hn he
  · have hb0 : (bothE xs ys != 0) = true := by simpa using he
    rw [timesL, if_neg he]
    clear he
    go_enter Tryd.func32, Tryd.ntmps32
    go_wp2_with (first
      | (go_at_call 58
         refine (refBoth_any A B n m c d xs ys w _ ha hb hn hm).mono ?_
         rintro e w1 ⟨rfl, q1, rfl⟩))
    go_ret2
    exact RetL_nil (below_drewN (Below.refl _ _) q1)
end Go.Proofs.YtjhcemhnnkcjaaaDoor
