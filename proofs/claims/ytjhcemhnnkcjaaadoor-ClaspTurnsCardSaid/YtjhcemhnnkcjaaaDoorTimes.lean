/- Times of the program. -/
import Derived.Test.YtjhcemhnnkcjaaaDoorApi2
import Derived.Test.YtjhcemhnnkcjaaaDoorPush
import Derived.Deep.OwnRows
import Derived.Deep.RegionHeld3
namespace Go.Proofs.YtjhcemhnnkcjaaaDoor
open Go.RowKit
/-- how often rings are moved between two numbers -/
def timesN (n lo hi : Nat) : List Int := (List.range n).map fun k => (((hi / 2 ^ k - lo / 2 ^ k) - (hi / 2 ^ (k + 1) - lo / 2 ^ (k + 1)) : Nat) : Int)
theorem timesN_length (n lo hi : Nat) : (timesN n lo hi).length = n := by simp [timesN]
theorem timesN_at {n lo hi k : Nat} (h : k < n) : (timesN n lo hi)[k]? = some (((hi / 2 ^ k - lo / 2 ^ k) - (hi / 2 ^ (k + 1) - lo / 2 ^ (k + 1)) : Nat) : Int) := by
  simp [timesN, h]
def timesL (xs ys : List Int) : List Int := if bothE xs ys = 0 then timesN xs.length (min (numS xs) (numS ys)) (max (numS xs) (numS ys)) else []
/-- halves of a distance -/
theorem half_le {x y : Nat} (h : x ≤ y) (k : Nat) : x / 2 ^ k ≤ y / 2 ^ k ∧ y / 2 ^ (k + 1) - x / 2 ^ (k + 1) ≤ y / 2 ^ k - x / 2 ^ k := by
  have h1 : x / 2 ^ k ≤ y / 2 ^ k := Nat.div_le_div_right h
  have e1 : x / 2 ^ (k + 1) = x / 2 ^ k / 2 := by rw [Nat.pow_succ, Nat.div_div_eq_div_mul]
  have e2 : y / 2 ^ (k + 1) = y / 2 ^ k / 2 := by rw [Nat.pow_succ, Nat.div_div_eq_div_mul]
  rw [e1, e2]
  exact ⟨h1, by omega⟩
theorem times_go {lo hi k : Nat} (h : lo ≤ hi) (hh : hi < 65536) : wrap64 (wrap64 ((hi : Int) / 2 ^ k - (lo : Int) / 2 ^ k) - wrap64 ((hi : Int) / 2 ^ (k + 1) - (lo : Int) / 2 ^ (k + 1))) = (((hi / 2 ^ k - lo / 2 ^ k) - (hi / 2 ^ (k + 1) - lo / 2 ^ (k + 1)) : Nat) : Int) := by
  have d : ∀ x j : Nat, (x : Int) / 2 ^ j = ((x / 2 ^ j : Nat) : Int) := fun x j => by simp
  obtain ⟨h1, h2⟩ := half_le h k
  have h3 := (half_le h (k + 1)).1
  have b1 : hi / 2 ^ k ≤ hi := Nat.div_le_self _ _
  have b2 : hi / 2 ^ (k + 1) ≤ hi := Nat.div_le_self _ _
  rw [d, d, d, d]
  generalize hi / 2 ^ k = p at *
  generalize lo / 2 ^ k = q at *
  generalize hi / 2 ^ (k + 1) = r at *
  generalize lo / 2 ^ (k + 1) = s at *
  rw [IntWalk.wrap64_in ((p : Int) - q) ⟨by omega, by omega⟩, IntWalk.wrap64_in ((r : Int) - s) ⟨by omega, by omega⟩, IntWalk.wrap64_in _ ⟨by omega, by omega⟩]
  omega
set_option maxRecDepth 100000 in
set_option maxHeartbeats 2000000 in
theorem Times_any (A B : Option Addr) (n m c d : Nat) (xs ys : List Int) (w : World) (ha : RInts w w.heap.size A n xs) (hb : RInts w w.heap.size B m ys) (hn : n ≤ maxLen) (hm : m ≤ maxLen) :
    Calls Tryd.prog 31 #[.slice A n c, .slice B m d] w (RetL (timesL xs ys) (bothE xs ys) w) := by
  by_cases he : bothE xs ys = 0
  · obtain ⟨rfl, hx, hy, l1, l2, h16, hn16, hn0⟩ := walked_pre ha hb he
    have hX := Lib.hid hx
    have hY := Lib.hid hy
    have k1 : numS xs < 65536 := by omega
    have k2 : numS ys < 65536 := by omega
    have hTL : timesL xs ys = timesN n (min (numS xs) (numS ys)) (max (numS xs) (numS ys)) := by rw [timesL, if_pos he, ha.len]
    rw [he, hTL]
    clear hx hy l1 l2 h16 he hTL
    have hmk := run_make_row' (P := Tryd.prog) 22 3 (.int .i64 0) 8 Tryd.underlying22 infoInt rfl .i64 .i64 n (by omega) (by omega)
    rcases Nat.lt_trichotomy (numS xs) (numS ys) with hlt | hlt | hlt
    · have hmm : timesN n (min (numS xs) (numS ys)) (max (numS xs) (numS ys)) = timesN n (numS xs) (numS ys) := by rw [Nat.min_eq_left (by omega), Nat.max_eq_right (by omega)]
      rw [hmm]
      clear hmm
      have HTL := Lib.hid (timesN_length n (numS xs) (numS ys))
      go_enter Tryd.func31, Tryd.ntmps31
      go_wp2_with (first
        | (go_at_call 56; refine (walked_ok A B n c d xs ys w ha hb hn hX.out hY.out).mono ?_; rintro e w1 ⟨rfl, hb1⟩; unfold walkC))
      go_region
      go_wp2_with (fail)
      rw [intArr_made]
      have hle : (numS xs) ≤ (numS ys) := by omega
      have kh : (numS ys) < 65536 := by omega
      clear k1 k2 hlt
      have hgo := fun k => times_go (k := k) hle kh
      have HG := Lib.hid hgo
      clear hgo hle kh
      go_loopw [36] (fun i wr => ∃ k : Nat, k ≤ n ∧ i = .int .i64 k ∧ Blk wr (w1.heap.size + 1) 3 (intArr (fillI n (timesN n (numS xs) (numS ys)) k)) ∧ Below w.heap.size w wr) (fun i _ => n - (intOf i).toNat)
      case atStart => exact ⟨0, by omega, rfl, by rw [fillI_zero]; exact heap_alloc2_new _ _ _, ((hb1.alloc hb1.size _).alloc (by simp; have := hb1.size; omega) _).drew⟩
      case round =>
        obtain ⟨k, hk, rfl, hB1, hBe⟩ := hrel
        by_cases hkn : k < n
        · have hc1 : wr.cell? ⟨w1.heap.size + 1, k, none⟩ = some (.int .i64 0) := by rw [hB1.cell, intArr_at, fillI_at HTL.out hkn]; rfl
          have hfz := hB1.frozen k
          have hAt := Lib.hid (timesN_at (n := n) (lo := (numS xs)) (hi := (numS ys)) hkn)
          go_wp2_with (fail)
          go_region
          go_wp2_with (fail)
          go_roundw
          case rel =>
            rw [HG.out k]
            refine ⟨k + 1, by omega, by go_num, ?_, (hBe.setCell (by show _ ≤ w1.heap.size + 1; have := hb1.size; omega) _).drew⟩
            have := hB1.set_ k (.int .i64 (((numS ys) / 2 ^ k - (numS xs) / 2 ^ k) - ((numS ys) / 2 ^ (k + 1) - (numS xs) / 2 ^ (k + 1)) : Nat))
            rw [intArr_set, fillI_set HTL.out hAt.out] at this
            exact this
          case measure => simp [intOf]; omega
        · obtain rfl : k = n := by omega
          rw [fillI_end HTL.out] at hB1
          go_wp2_with (fail)
          go_ret2
          exact ⟨_, _, _, rfl, RInts.of_blk hB1 HTL.out, by omega, hBe⟩
    · have hmm : timesN n (min (numS xs) (numS ys)) (max (numS xs) (numS ys)) = timesN n (numS xs) (numS xs) := by rw [hlt, Nat.min_self, Nat.max_self]
      rw [hmm]
      clear hmm
      have HTL := Lib.hid (timesN_length n (numS xs) (numS xs))
      have hEq := Lib.hid hlt.symm
      go_enter Tryd.func31, Tryd.ntmps31
      go_wp2_with (first
        | (go_at_call 56; refine (walked_ok A B n c d xs ys w ha hb hn hX.out hY.out).mono ?_; rintro e w1 ⟨rfl, hb1⟩; unfold walkC; rw [hEq.out]))
      go_region
      go_wp2_with (fail)
      rw [intArr_made]
      have hle : (numS xs) ≤ (numS xs) := by omega
      have kh : (numS xs) < 65536 := by omega
      clear k1 k2 hlt
      clear hle kh
      go_loopw [36] (fun i wr => ∃ k : Nat, k ≤ n ∧ i = .int .i64 k ∧ Blk wr (w1.heap.size + 1) 3 (intArr (fillI n (timesN n (numS xs) (numS xs)) k)) ∧ Below w.heap.size w wr) (fun i _ => n - (intOf i).toNat)
      case atStart => exact ⟨0, by omega, rfl, by rw [fillI_zero]; exact heap_alloc2_new _ _ _, ((hb1.alloc hb1.size _).alloc (by simp; have := hb1.size; omega) _).drew⟩
      case round =>
        obtain ⟨k, hk, rfl, hB1, hBe⟩ := hrel
        by_cases hkn : k < n
        · have hc1 : wr.cell? ⟨w1.heap.size + 1, k, none⟩ = some (.int .i64 0) := by rw [hB1.cell, intArr_at, fillI_at HTL.out hkn]; rfl
          have hfz := hB1.frozen k
          have hAt : Hid ((timesN n (numS xs) (numS xs))[k]? = some 0) := Lib.hid (by rw [timesN_at hkn]; simp)
          go_wp2_with (fail)
          go_region
          go_wp2_with (fail)
          go_roundw
          case rel =>
            refine ⟨k + 1, by omega, by go_num, ?_, (hBe.setCell (by show _ ≤ w1.heap.size + 1; have := hb1.size; omega) _).drew⟩
            have := hB1.set_ k (.int .i64 0)
            rw [intArr_set, fillI_set HTL.out hAt.out] at this
            exact this
          case measure => simp [intOf]; omega
        · obtain rfl : k = n := by omega
          rw [fillI_end HTL.out] at hB1
          go_wp2_with (fail)
          go_ret2
          exact ⟨_, _, _, rfl, RInts.of_blk hB1 HTL.out, by omega, hBe⟩
    · have hmm : timesN n (min (numS xs) (numS ys)) (max (numS xs) (numS ys)) = timesN n (numS ys) (numS xs) := by rw [Nat.min_eq_right (by omega), Nat.max_eq_left (by omega)]
      rw [hmm]
      clear hmm
      have HTL := Lib.hid (timesN_length n (numS ys) (numS xs))
      go_enter Tryd.func31, Tryd.ntmps31
      go_wp2_with (first
        | (go_at_call 56; refine (walked_ok A B n c d xs ys w ha hb hn hX.out hY.out).mono ?_; rintro e w1 ⟨rfl, hb1⟩; unfold walkC))
      go_region
      go_wp2_with (fail)
      rw [intArr_made]
      have hle : (numS ys) ≤ (numS xs) := by omega
      have kh : (numS xs) < 65536 := by omega
      clear k1 k2 hlt
      have hgo := fun k => times_go (k := k) hle kh
      have HG := Lib.hid hgo
      clear hgo hle kh
      go_loopw [36] (fun i wr => ∃ k : Nat, k ≤ n ∧ i = .int .i64 k ∧ Blk wr (w1.heap.size + 1) 3 (intArr (fillI n (timesN n (numS ys) (numS xs)) k)) ∧ Below w.heap.size w wr) (fun i _ => n - (intOf i).toNat)
      case atStart => exact ⟨0, by omega, rfl, by rw [fillI_zero]; exact heap_alloc2_new _ _ _, ((hb1.alloc hb1.size _).alloc (by simp; have := hb1.size; omega) _).drew⟩
      case round =>
        obtain ⟨k, hk, rfl, hB1, hBe⟩ := hrel
        by_cases hkn : k < n
        · have hc1 : wr.cell? ⟨w1.heap.size + 1, k, none⟩ = some (.int .i64 0) := by rw [hB1.cell, intArr_at, fillI_at HTL.out hkn]; rfl
          have hfz := hB1.frozen k
          have hAt := Lib.hid (timesN_at (n := n) (lo := (numS ys)) (hi := (numS xs)) hkn)
          go_wp2_with (fail)
          go_region
          go_wp2_with (fail)
          go_roundw
          case rel =>
            rw [HG.out k]
            refine ⟨k + 1, by omega, by go_num, ?_, (hBe.setCell (by show _ ≤ w1.heap.size + 1; have := hb1.size; omega) _).drew⟩
            have := hB1.set_ k (.int .i64 (((numS xs) / 2 ^ k - (numS ys) / 2 ^ k) - ((numS xs) / 2 ^ (k + 1) - (numS ys) / 2 ^ (k + 1)) : Nat))
            rw [intArr_set, fillI_set HTL.out hAt.out] at this
            exact this
          case measure => simp [intOf]; omega
        · obtain rfl : k = n := by omega
          rw [fillI_end HTL.out] at hB1
          go_wp2_with (fail)
          go_ret2
          exact ⟨_, _, _, rfl, RInts.of_blk hB1 HTL.out, by omega, hBe⟩
  · have hE := Lib.hid he
    have hbb : (bothE xs ys != 0) = true := by simpa using he
    have hTL : timesL xs ys = [] := by rw [timesL, if_neg he]
    rw [hTL]
    clear he hTL
    go_enter Tryd.func31, Tryd.ntmps31
    go_wp2_with (first
      | (go_at_call 56; refine (walked_bad A B n m c d xs ys w ha hb hn hm hE.out).mono ?_; rintro e w1 ⟨rfl, hb1⟩; unfold walkC))
    go_ret2
    exact RetL_nil (hb1.alloc hb1.size _)
end Go.Proofs.YtjhcemhnnkcjaaaDoor
