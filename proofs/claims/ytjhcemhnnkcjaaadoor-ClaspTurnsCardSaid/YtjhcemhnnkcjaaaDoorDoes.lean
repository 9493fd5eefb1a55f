/- What can be done with a ring of a rest. -/
import Derived.Test.YtjhcemhnnkcjaaaDoorProg
import Derived.Test.YtjhcemhnnkcjaaaDoorNum
import Derived.Test.YtjhcemhnnkcjaaaDoorLaid
namespace Go.Proofs.YtjhcemhnnkcjaaaDoor
open Go.RowKit
/-- held 0, puts 1, takes 2 -/
def doesS (xs : List Int) (k : Nat) : Int := if canS xs k then (if xs[k]? = some 1 then 2 else 1) else 0
theorem canS_zero (xs : List Int) : canS xs 0 = true := by cases xs <;> rfl
theorem doesS_of {xs : List Int} {k : Nat} {x : Int} {c : Bool} (hc : canS xs k = c) (hx : xs[k]? = some x) : doesS xs k = if c then (if x = 1 then 2 else 1) else 0 := by
  simp [doesS, hc, hx]
set_option maxRecDepth 100000 in
set_option maxHeartbeats 1000000 in
theorem does_any (n k : Nat) (xs : List Int) (hl : xs.length = n) (hn : n ≤ 16) (hk : k < n) (w : World) :
    Calls Tryd.prog 70 #[.agg (restC n (pad xs)), .int .i64 k] w fun e w' => e = .returned (.int .i64 (doesS xs k)) ∧ Below w.heap.size w w' := by
  have hL := Lib.hid hl
  clear hl
  have hB0 : Blk (w.alloc (.cells (restC n (pad xs)) 68)) w.heap.size 68 (restC n (pad xs)) := Blk.new _ _ _
  have hc0 : (w.alloc (.cells (restC n (pad xs)) 68)).cell? ⟨w.heap.size, 0, none⟩ = some (.int .i64 (n : Int)) := by rw [hB0.cell, restC_zero]
  have hca : ∀ j x, j < 16 → xs[j]? = some x → (w.alloc (.cells (restC n (pad xs)) 68)).cell? ⟨w.heap.size, 1 + j, none⟩ = some (.bool (x == 1)) := by
    intro j x hj hx
    rw [hB0.cell, restC_at, pad, List.getElem?_map, List.getElem?_range (by omega)]
    simp [hx]
  have hCA := Lib.hid hca
  clear hca
  have hBe : Below w.heap.size w (w.alloc (.cells (restC n (pad xs)) 68)) := (Below.refl _ _).alloc (Nat.le_refl _) _
  go_enter Tryd.func70, Tryd.ntmps70
  go_wp2_with (fail)
  obtain ⟨x, hx⟩ : ∃ x, xs[k]? = some x := ⟨xs[k]'(by rw [hL.out]; exact hk), List.getElem?_eq_getElem _⟩
  have hX := Lib.hid hx
  have hck := hCA.out k x (by omega) hx
  clear hx
  obtain ⟨w1, hw1⟩ : ∃ w1, w1 = w.alloc (.cells (restC n (pad xs)) 68) := ⟨_, rfl⟩
  rw [← hw1] at hc0 hCA hBe hck ⊢
  clear hB0 hw1
  go_loop [5] (fun i => ∃ j : Nat, j ≤ n ∧ i = .int .i64 j ∧ Hid (∀ i, i < j → xs[i]? ≠ some 1)) (fun i => n - (intOf i).toNat)
  case atStart => exact ⟨0, by omega, rfl, fun i hi => absurd hi (by omega)⟩
  case round =>
    obtain ⟨j, hj, rfl, hF⟩ := hrel
    have fin : (xs[j]? = some 1 ∨ xs.length ≤ j) → doesS xs k = if (decide (k = 0 ∨ k = j + 1)) then (if x = 1 then 2 else 1) else 0 := by
      intro h2
      apply doesS_of _ hX.out
      cases k with
      | zero => rw [canS_zero]; simp
      | succ k => rw [canS_of_first hF.out h2 (by rw [hL.out]; omega)]; simp
    have hFin := Lib.hid fin
    clear fin
    by_cases hlt : j < n
    · obtain ⟨y, hy⟩ : ∃ y, xs[j]? = some y := ⟨xs[j]'(by rw [hL.out]; exact hlt), List.getElem?_eq_getElem _⟩
      have hcj := hCA.out j y (by omega) hy
      have hY := Lib.hid hy
      clear hy
      by_cases hy1 : y = 1
      · subst hy1
        have hE := Lib.hid (hFin.out (Or.inl hY.out))
        have hyb : ((1 : Int) == 1) = true := rfl
        rw [hyb] at hcj
        by_cases hx1 : x = 1
        · subst hx1
          have hxb : ((1 : Int) == 1) = true := rfl
          rw [hxb] at hck
          by_cases hk0 : k = 0
          · subst hk0
            go_wp2_with (fail)
            go_ret
            exact ⟨by rw [hE.out]; rfl, hBe⟩
          · by_cases hkj : k = j + 1
            · subst hkj
              go_wp2_with (fail)
              go_ret
              exact ⟨by rw [hE.out]; simp, hBe⟩
            · go_wp2_with (fail)
              go_ret
              exact ⟨by rw [hE.out]; simp [hk0, hkj], hBe⟩
        · have hxb : (x == 1) = false := by simpa using hx1
          rw [hxb] at hck
          have hX1 := Lib.hid hx1
          clear hx1
          by_cases hk0 : k = 0
          · subst hk0
            go_wp2_with (fail)
            go_ret
            exact ⟨by rw [hE.out]; simp [hX1.out], hBe⟩
          · by_cases hkj : k = j + 1
            · subst hkj
              go_wp2_with (fail)
              go_ret
              exact ⟨by rw [hE.out]; simp [hX1.out], hBe⟩
            · go_wp2_with (fail)
              go_ret
              exact ⟨by rw [hE.out]; simp [hk0, hkj], hBe⟩
      · have hyb : (y == 1) = false := by simpa using hy1
        rw [hyb] at hcj
        have hF' : Hid (∀ i, i < j + 1 → xs[i]? ≠ some 1) := fun i hi => by
          rcases Nat.lt_or_ge i j with h | h
          · exact hF.out i h
          · obtain rfl : i = j := by omega
            rw [hY.out]; intro e; injection e with e; exact hy1 e
        clear hy1
        go_wp2_with (fail)
        go_round
        case rel => exact ⟨j + 1, by omega, by go_num, hF'⟩
        case measure => simp [intOf]; omega
    · have hE := Lib.hid (hFin.out (Or.inr (by rw [hL.out]; omega)))
      by_cases hx1 : x = 1
      · subst hx1
        have hxb : ((1 : Int) == 1) = true := rfl
        rw [hxb] at hck
        by_cases hk0 : k = 0
        · subst hk0
          go_wp2_with (fail)
          go_ret
          exact ⟨by rw [hE.out]; rfl, hBe⟩
        · have hkj : ¬ k = j + 1 := by omega
          go_wp2_with (fail)
          go_ret
          exact ⟨by rw [hE.out]; simp [hk0, hkj], hBe⟩
      · have hxb : (x == 1) = false := by simpa using hx1
        rw [hxb] at hck
        have hX1 := Lib.hid hx1
        clear hx1
        by_cases hk0 : k = 0
        · subst hk0
          go_wp2_with (fail)
          go_ret
          exact ⟨by rw [hE.out]; simp [hX1.out], hBe⟩
        · have hkj : ¬ k = j + 1 := by omega
          go_wp2_with (fail)
          go_ret
          exact ⟨by rw [hE.out]; simp [hk0, hkj], hBe⟩
end Go.Proofs.YtjhcemhnnkcjaaaDoor
