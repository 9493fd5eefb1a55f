/- Count. -/
import Derived.Test.YtdaaiockkbolbaaNext
import Derived.Lib.SmallJoins
namespace Go.Proofs.Ytdaaiockkbolbaa
open Go.RowKit
theorem row_const (w : World) (g : Nat) (hg : g = w.heap.size) : ∃ w2, (convert 55 55 (.slice (some ⟨g, 0, none⟩) 1 1)).run Try.prog (w.alloc (.cells #[.int .u8 97] 5)) = .ok (.slice (some ⟨g, 0, none⟩) 1 1) w2 ∧ Row8 w2 (.slice (some ⟨g, 0, none⟩) 1 1) (some g) [97] ∧ Below w.heap.size w w2 := by
  subst hg
  refine ⟨_, Lib.run_convert_bytes_const w 55 5 #[.int .u8 97] 1 1 Try.underlying55 Try.underlying5, ?_, (Below.refl w.heap.size w).alloc (Nat.le_refl _) _⟩
  refine ⟨_, 1, rfl, Nat.le_refl _, by decide, fun h => (by cases h), fun g hg => ?_⟩
  obtain rfl : w.heap.size = g := by simpa using hg
  refine ⟨0, _, rfl, ⟨_, heap_alloc_new w _, Or.inr (Nat.le_refl _)⟩, rfl, fun j c hj => ?_⟩
  match j, hj with
  | 0, hj => simp at hj; subst hj; rfl
  | j + 1, hj => simp at hj
/-- what Count counts -/
def countN (k m : Nat) : Nat := (runW stepC k m 0 [97]).2
theorem countN_le {k m : Nat} (hk : k ≤ 4) (hm : m ≤ 9) : countN k m ≤ 262144 := by
  have h := cost_runW (cost := id) (step := stepC) hk (fun s x => by simp [stepC]) m 0 [97]
  have h2 : 4 ^ m ≤ 4 ^ 9 := Nat.pow_le_pow_right (by omega) hm
  have h3 : (4 : Nat) ^ 9 = 262144 := by decide
  simp only [id] at h
  unfold countN
  omega
def countE (n l : Int) : Int := if (1 ≤ n ∧ n ≤ 4) ∧ (0 ≤ l ∧ l ≤ 10) then 0 else 1
def countV (n l : Int) : Int := if (1 ≤ n ∧ n ≤ 4) ∧ (0 ≤ l ∧ l ≤ 10) then (if l = 0 then 1 else (countN n.toNat (l - 1).toNat : Int) * n) else 0
set_option maxRecDepth 100000 in
set_option maxHeartbeats 4000000 in
theorem Count_any (n l : Int) (w : World) : Calls Try.prog 23 #[.int .i64 n, .int .i64 l] w fun e w' => e = .returned (.tuple #[.int .i64 (countV n l), .int .i64 (countE n l)]) ∧ Below w.heap.size w w' := by
  by_cases h1 : 1 ≤ n ∧ n ≤ 4
  · have hw1 : withinB n 1 4 = true := by simp [withinB, h1]
    by_cases h2 : 0 ≤ l ∧ l ≤ 10
    · have hw2 : withinB l 0 10 = true := by simp [withinB, h2]
      have hE : countE n l = 0 := by rw [countE, if_pos ⟨h1, h2⟩]
      rw [hE]
      by_cases h0 : l = 0
      · have hV : countV n l = 1 := by rw [countV, if_pos ⟨h1, h2⟩, if_pos h0]
        rw [hV]
        subst h0
        clear hV hE h2
        go_enter Try.func23, Try.ntmps23
        go_wp2_with (first
          | (go_at_call 61; refine (within_b _ _ _ _).mono ?_; rintro e w1 ⟨rfl, rfl⟩; first | rw [hw1] | rw [hw2]))
        go_ret2
        exact ⟨rfl, Below.refl _ _⟩
      · obtain ⟨k, rfl⟩ : ∃ k : Nat, n = k := ⟨n.toNat, by omega⟩
        obtain ⟨M, rfl⟩ : ∃ M : Nat, l = M := ⟨l.toNat, by omega⟩
        obtain ⟨m, hm⟩ : ∃ m : Nat, (M : Int) - 1 = m := ⟨M - 1, by omega⟩
        obtain ⟨N, hN⟩ : ∃ N, countN k m = N := ⟨_, rfl⟩
        have hN4 := countN_le (k := k) (m := m) (by omega) (by omega)
        rw [hN] at hN4
        have hV : countV (k : Int) (M : Int) = (N : Int) * k := by rw [countV, if_pos ⟨h1, h2⟩, if_neg h0, hm, ← hN]; rfl
        rw [hV]
        have hNH := Lib.hid (show (runW stepC k m 0 [97]).2 = N from hN)
        have hM0 : ((M : Int) == 0) = false := by simp; omega
        have hNk : (N : Int) * k ≤ 1048576 := by
          have : N * k ≤ 262144 * 4 := Nat.mul_le_mul hN4 (by omega)
          have h3 : ((N * k : Nat) : Int) ≤ 1048576 := by omega
          simpa using h3
        have hNk0 : (0 : Int) ≤ (N : Int) * k := Int.mul_nonneg (by omega) (by omega)
        have hk4 : k ≤ 4 := by omega
        have hm9 : m ≤ 9 := by omega
        have hl1 := Lib.hid (show lettersS [97] (k : Int) = true by simp [lettersS]; omega)
        obtain ⟨W1, hW1⟩ : ∃ W1, w.alloc (.cells #[.int .i64 0] 3 (0, 0)) = W1 := ⟨_, rfl⟩
        have hs1 : W1.heap.size = w.heap.size + 1 := by rw [← hW1]; simp
        have hbA : Below w.heap.size w W1 := by rw [← hW1]; exact (Below.refl w.heap.size w).alloc (Nat.le_refl _) _
        have hBk : Blk W1 w.heap.size 3 #[.int .i64 0] := by rw [← hW1]; exact Blk.new w _ _
        obtain ⟨w2, hcv, hrow, hb2⟩ := row_const W1 (w.heap.size + 1) hs1.symm
        have hI2 : (countEach w.heap.size k M).I (fun i => i = w.heap.size) 0 w2 := ⟨(hb2.block _ (by omega)).trans hBk, fun i => Iff.rfl⟩
        have hs2 : w.heap.size + 1 ≤ w2.heap.size := by have := hb2.size; omega
        have hb02 : Below w.heap.size w w2 := hbA.trans (hb2.mono (by omega))
        rw [← hW1] at hcv
        clear hV hE hN hW1 hbA hBk hb2 hs1
        go_enter Try.func23, Try.ntmps23
        go_wp2_with (first
          | (go_at_call 61; refine (within_b _ _ _ _).mono ?_; rintro e w1 ⟨rfl, rfl⟩; first | rw [hw1] | rw [hw2])
          | (go_at_call 55
             refine (walk_any (countEach _ k M) hk4 (by omega) m (fun i => i = _) 0 w2 _ _ [97] (by show 0 + 4 ^ m ≤ 1000000000; have := Nat.pow_le_pow_right (n := 4) (by omega) hm9; have h3 : (4 : Nat) ^ 9 = 262144 := (by decide); omega) (by simp; omega) hl1.out hI2 hrow (fun g hg e => by simp at hg; omega)).mono ?_
             rintro e w3 ⟨O3, rfl, hI3, hr3, hF3, hO3⟩
             rw [hNH.out] at hI3
             have hb3 := hb02.trans (hF3.below fun i hi => ⟨by omega, fun h => h.elim (fun e => by have e' : i = _ := e; omega) (fun e => by simp at e; omega)⟩)
             have c3 := hI3.1.cell 0))
        go_ret2
        exact ⟨rfl, hb3⟩
    · have hw2 : withinB l 0 10 = false := by rw [Bool.eq_false_iff]; intro h; simp [withinB] at h; omega
      have hE : countE n l = 1 := by rw [countE, if_neg (fun h => h2 h.2)]
      have hV : countV n l = 0 := by rw [countV, if_neg (fun h => h2 h.2)]
      rw [hE, hV]
      clear hE hV
      go_enter Try.func23, Try.ntmps23
      go_wp2_with (first
        | (go_at_call 61; refine (within_b _ _ _ _).mono ?_; rintro e w1 ⟨rfl, rfl⟩; first | rw [hw1] | rw [hw2]))
      go_ret2
      exact ⟨rfl, Below.refl _ _⟩
  · have hw1 : withinB n 1 4 = false := by rw [Bool.eq_false_iff]; intro h; simp [withinB] at h; omega
    have hE : countE n l = 1 := by rw [countE, if_neg (fun h => h1 h.1)]
    have hV : countV n l = 0 := by rw [countV, if_neg (fun h => h1 h.1)]
    rw [hE, hV]
    clear hE hV
    go_enter Try.func23, Try.ntmps23
    go_wp2_with (first
      | (go_at_call 61; refine (within_b _ _ _ _).mono ?_; rintro e w1 ⟨rfl, rfl⟩; rw [hw1]))
    go_ret2
    exact ⟨rfl, Below.refl _ _⟩
end Go.Proofs.Ytdaaiockkbolbaa
