/- The reference's number, place, can: the number of a position, the position of a number, whether a ring can be moved. -/
import Derived.Test.YtjhcemhnnkcjaaaDoorProg
import Derived.Test.YtjhcemhnnkcjaaaDoorRefP
import Derived.Deep.QuietTactic
import Derived.BigQuiet
namespace Go.Proofs.YtjhcemhnnkcjaaaDoor
open Go.RowKit
set_option maxHeartbeats 400000 in
theorem refNumber_any (A : Option Addr) (n c : Nat) (xs : List Int) (w : World) (BL : Nat) (ha : RInts w BL A n xs) (hn : n ≤ 16) (hb : bin xs) :
    Calls Tryd.prog 51 #[.slice A n c] w fun e w' => e = .returned (.int .i64 (numS xs : Nat)) ∧ w' = w := by
  have hl := ha.len
  have hB := Lib.hid hb
  have hL := Lib.hid hl
  have hd := fun j => num_drop_lt hb (by omega : xs.length ≤ 16) j
  have hs := fun j x (h : xs[j]? = some x) => num_step h
  clear hb
  go_enter Tryd.func51, Tryd.ntmps51
  go_wp2
  go_loop [5, 3, 4] (fun k v on => ∃ j : Nat, j ≤ n ∧ k = .int .i64 ((j : Int) - 1) ∧ v = .int .i64 (numS (xs.drop j) : Nat) ∧ on = .int .i64 (cntS (xs.drop j) : Nat)) (fun k _ _ => (intOf k + 1).toNat)
  case atStart => exact ⟨n, by omega, rfl, by rw [List.drop_of_length_le (by omega)]; rfl, by rw [List.drop_of_length_le (by omega)]; rfl⟩
  case round =>
    obtain ⟨j, hj, rfl, rfl, rfl⟩ := hrel
    cases j with
    | zero =>
      rw [List.drop_zero]
      go_wp2
      go_ret
      exact ⟨rfl, rfl⟩
    | succ i =>
      obtain ⟨ad, x, rfl, _, h1, hx⟩ := ha.at_ (k := i) (by omega)
      have hx1 := hs i x hx.out
      have hd0 := hd i
      have hd1 := hd (i + 1)
      have hbx := hB.out x (List.mem_of_getElem? hx.out)
      clear hs hd
      obtain ⟨N1, hN1⟩ : ∃ N, N = numS (xs.drop (i + 1)) := ⟨_, rfl⟩
      obtain ⟨C1, hC1⟩ : ∃ N, N = cntS (xs.drop (i + 1)) := ⟨_, rfl⟩
      obtain ⟨N0, hN0⟩ : ∃ N, N = numS (xs.drop i) := ⟨_, rfl⟩
      obtain ⟨C0, hC0⟩ : ∃ N, N = cntS (xs.drop i) := ⟨_, rfl⟩
      rw [← hN1, ← hC1, ← hN0, ← hC0] at hx1
      rw [← hN0, ← hC0] at hd0
      rw [← hN1, ← hC1] at hd1
      rw [← hN1, ← hC1]
      have e1 : (C1 : Int) + x = (C0 : Int) := by rcases hbx with rfl | rfl <;> simp at hx1 <;> omega
      have e2 : ((C0 : Nat) : Int).tmod 2 = ((C0 % 2 : Nat) : Int) := by rw [Int.tmod_eq_emod_of_nonneg (by omega)]; omega
      have e3 : 2 * (N1 : Int) + ((C0 % 2 : Nat) : Int) = (N0 : Int) := by omega
      have e4 : ((i + 1 : Nat) : Int) - 1 = (i : Int) := by omega
      rw [e4]
      have hm : C0 % 2 < 2 := by omega
      clear hx1 hbx e4
      have hN0' := Lib.hid hN0
      have hC0' := Lib.hid hC0
      clear hN0 hC0 hN1 hC1
      go_wp2
      go_round
      case rel => exact ⟨i, by omega, by go_num, by rw [← hN0'.out]; congr 1, by rw [← hC0'.out]⟩
      case measure => simp [intOf]
theorem place_at {n k : Nat} (h : n < 65536) : ((n : Int) / 2 ^ k + (n : Int) / 2 ^ (k + 1)).tmod 2 = (((n / 2 ^ k + n / 2 ^ (k + 1)) % 2 : Nat) : Int) ∧ IntKind.i64.wrap ((n : Int) / 2 ^ k + (n : Int) / 2 ^ (k + 1)) = (n : Int) / 2 ^ k + (n : Int) / 2 ^ (k + 1) := by
  have e1 : (n : Int) / 2 ^ k = ((n / 2 ^ k : Nat) : Int) := by simp
  have e2 : (n : Int) / 2 ^ (k + 1) = ((n / 2 ^ (k + 1) : Nat) : Int) := by simp
  have h1 : n / 2 ^ k ≤ n := Nat.div_le_self _ _
  have h2 : n / 2 ^ (k + 1) ≤ n := Nat.div_le_self _ _
  rw [e1, e2]
  generalize n / 2 ^ k = X at *
  generalize n / 2 ^ (k + 1) = Y at *
  exact ⟨by rw [Int.tmod_eq_emod_of_nonneg (by omega)]; omega, by rw [IntWalk.i64_in _ (by omega)]⟩
theorem infoIr : (Tryd.prog.info? 3).map (fun i => (i.zero, i.size, i.bytes)) = some (some (.int .i64 0), 1, 8) := by kernel_rfl
set_option maxHeartbeats 400000 in
theorem refPlace_blk (r n : Nat) (hr : r ≤ 16) (hr0 : r ≠ 0) (hn : n < 65536) (w : World) :
    Calls Tryd.prog 54 #[.int .i64 r, .int .i64 n] w fun e w' => ∃ g, e = .returned (.slice (some ⟨g, 0, none⟩) r r) ∧ Blk w' g 3 (intArr (grayS r n)) ∧ w.heap.size ≤ g ∧ Below w.heap.size w w' := by
  have hmk := run_make_row' (P := Tryd.prog) 22 3 (.int .i64 0) 8 Tryd.underlying22 infoIr rfl .i64 .i64 r (by omega) (by omega)
  have hL := Lib.hid (grayS_length r n)
  go_enter Tryd.func54, Tryd.ntmps54
  go_wp2_with (fail)
  rw [intArr_made]
  go_loopw [6] (fun i wr => ∃ k : Nat, k ≤ r ∧ i = .int .i64 k ∧ Blk wr w.heap.size 3 (intArr (fillI r (grayS r n) k)) ∧ Below w.heap.size w wr) (fun i _ => r - (intOf i).toNat)
  case atStart => exact ⟨0, by omega, rfl, by rw [fillI_zero]; exact Blk.new _ _ _, (Below.refl _ _).alloc (by simp) _⟩
  case round =>
    obtain ⟨k, hk, rfl, hB1, hBe⟩ := hrel
    by_cases hlt : k < r
    · have hc1 : wr.cell? ⟨w.heap.size, k, none⟩ = some (.int .i64 0) := by rw [hB1.cell, intArr_at, fillI_at hL.out hlt]; rfl
      have hfz := hB1.frozen k
      obtain ⟨p1, p2⟩ := place_at (k := k) hn
      have hN := hB1.set_ k (.int .i64 (((n / 2 ^ k + n / 2 ^ (k + 1)) % 2 : Nat) : Int))
      rw [intArr_set, fillI_set hL.out (grayS_at r n k hlt)] at hN
      have hNe := hBe.setCell (p := ⟨w.heap.size, k, none⟩) (by simp) (.int .i64 (((n / 2 ^ k + n / 2 ^ (k + 1)) % 2 : Nat) : Int))
      obtain ⟨D, hD⟩ : ∃ D, D = (n / 2 ^ k + n / 2 ^ (k + 1)) % 2 := ⟨_, rfl⟩
      rw [← hD] at p1 hN hNe
      clear hD
      go_wp2_with (fail)
      go_region
      go_wp2_with (fail)
      go_roundw
      case rel => exact ⟨k + 1, by omega, by go_num, hN, below_drewN hNe 1⟩
      case measure => simp [intOf]; omega
    · obtain rfl : k = r := by omega
      rw [fillI_end hL.out] at hB1
      go_wp2_with (fail)
      go_ret
      exact ⟨_, rfl, hB1, Nat.le_refl _, hBe⟩
theorem refPlace_any (r n : Nat) (hr : r ≤ 16) (hr0 : r ≠ 0) (hn : n < 65536) (w : World) :
    Calls Tryd.prog 54 #[.int .i64 r, .int .i64 n] w fun e w' => ∃ g, e = .returned (.slice (some ⟨g, 0, none⟩) r r) ∧ RInts w' w'.heap.size (some ⟨g, 0, none⟩) r (grayS r n) ∧ Below w.heap.size w w' :=
  (refPlace_blk r n hr hr0 hn w).mono fun _ _ ⟨g, h1, h2, _, h3⟩ => ⟨g, h1, RInts.of_blk h2 (grayS_length _ _), h3⟩
theorem canS_start {xs : List Int} {k r : Nat} (h : ∀ j, j < k → (xs[j]? = some 1 ↔ j + 1 = r)) (hk : r ≤ k) : canS xs r = true := by
  cases r with
  | zero => cases xs <;> rfl
  | succ r =>
    rw [canS_first]
    exact ⟨fun j hj e => by have := (h j (by omega)).1 e; omega, (h r (by omega)).2 rfl⟩
theorem canS_stop {xs : List Int} {k r : Nat} (hk : k < r) (h : ¬ (xs[k]? = some 1 ↔ k + 1 = r)) : canS xs r = false := by
  cases r with
  | zero => omega
  | succ r =>
    rw [Bool.eq_false_iff]
    intro hc
    obtain ⟨h1, h2⟩ := (canS_first xs r).1 hc
    rcases Nat.lt_or_ge k r with hl | hg
    · exact h ⟨fun e => absurd e (h1 k hl), fun e => by omega⟩
    · obtain rfl : k = r := by omega
      exact h ⟨fun _ => rfl, fun _ => h2⟩
set_option maxHeartbeats 400000 in
theorem refCan_any (A : Option Addr) (n c : Nat) (r : Nat) (xs : List Int) (w : World) (BL : Nat) (ha : RInts w BL A n xs) (hn : n ≤ 16) (hr : r ≤ n) :
    Calls Tryd.prog 71 #[.slice A n c, .int .i64 r] w fun e w' => e = .returned (.bool (canS xs r)) ∧ w' = w := by
  go_enter Tryd.func71, Tryd.ntmps71
  go_wp2
  go_loop [5] (fun i => ∃ k : Nat, k ≤ r ∧ i = .int .i64 k ∧ Hid (∀ j, j < k → (xs[j]? = some 1 ↔ j + 1 = r))) (fun i => r - (intOf i).toNat)
  case atStart => exact ⟨0, by omega, rfl, Lib.hid (fun j hj => by omega)⟩
  case round =>
    obtain ⟨k, hk, rfl, hI⟩ := hrel
    by_cases hlt : k < r
    · obtain ⟨ad, x, rfl, _, h1, hx⟩ := ha.at_ (k := k) (by omega)
      have hxo : (xs[k]? = some 1) ↔ (x = 1) := by rw [hx.out]; simp
      by_cases hg : (x = 1 ↔ k + 1 = r)
      · have hS : Hid (∀ j, j < k + 1 → (xs[j]? = some 1 ↔ j + 1 = r)) := Lib.hid (fun j hj => by
          by_cases e : j = k
          · subst e; rw [hxo]; exact hg
          · exact hI.out j (by omega))
        have hq : (x == 1) = ((k : Int) == (r : Int) - 1) := by
          rw [Bool.eq_iff_iff]; simp; rw [hg]; omega
        by_cases hx1 : x = 1
        · subst hx1
          have h2 : ((k : Int) == (r : Int) - 1) = true := by have := hg.1 rfl; simp; omega
          clear hq hg hxo
          go_wp2
          go_round
          case rel => exact ⟨k + 1, by omega, by go_num, hS⟩
          case measure => simp [intOf]; omega
        · have h1' : (x == 1) = false := by simpa using hx1
          have h2 : ((k : Int) == (r : Int) - 1) = false := by rw [← hq, h1']
          clear hq hg hxo hx1
          go_wp2
          go_round
          case rel => exact ⟨k + 1, by omega, by go_num, hS⟩
          case measure => simp [intOf]; omega
      · have hC := Lib.hid (canS_stop hlt (fun h => hg (hxo.symm.trans h)))
        by_cases hx1 : x = 1
        · subst hx1
          have h2 : ((k : Int) == (r : Int) - 1) = false := by simp; intro h; apply hg; simp; omega
          clear hg hxo
          go_wp2
          go_ret
          exact ⟨by rw [hC.out]; rfl, rfl⟩
        · have h1' : (x == 1) = false := by simpa using hx1
          have h2 : ((k : Int) == (r : Int) - 1) = true := by
            have : k + 1 = r := by
              apply Classical.byContradiction
              intro h; exact hg ⟨fun e => absurd e hx1, fun e => absurd e h⟩
            simp; omega
          clear hg hxo hx1
          go_wp2
          go_ret
          exact ⟨by rw [hC.out]; rfl, rfl⟩
    · have hC := Lib.hid (canS_start hI.out (by omega))
      go_wp2
      go_ret
      exact ⟨by rw [hC.out]; rfl, rfl⟩
end Go.Proofs.YtjhcemhnnkcjaaaDoor
