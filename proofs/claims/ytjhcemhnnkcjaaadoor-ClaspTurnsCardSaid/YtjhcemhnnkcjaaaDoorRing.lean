/- How often 2 divides a number, by the library's table; the ring between two places of the line. -/
import Derived.Test.YtjhcemhnnkcjaaaDoorProg
import Derived.Test.YtjhcemhnnkcjaaaDoorNum
import Derived.Shelf.Spec.TrailingZeros
namespace Go.Proofs.YtjhcemhnnkcjaaaDoor
open Go.RowKit
/-- the library's table lies in its variable -/
def Tab (w : World) : Prop := 1 < w.heap.size ∧ TabAt 1 Lib.deBruijn64tab w
theorem Tab.later {w w' : World} (h : Tab w) (hb : Below w.heap.size w w') : Tab w' :=
  ⟨Nat.lt_of_lt_of_le h.1 hb.size, fun j hj => (hb.cell (p := ⟨1, j, none⟩) h.1).trans (h.2 j hj)⟩
theorem Tab.drew {w : World} (h : Tab w) : Tab w.drew := h
set_option maxHeartbeats 1000000 in
theorem tz64_core (x k idx : Nat) (w : World) (hx0 : ((x : Int) == 0) = false)
    (key : IntKind.u64.wrap (bits BinOp.and IntKind.u64 (x : Int) (IntKind.u64.wrap (-(x : Int))) * 285870213051353865) / 288230376151711744 = (idx : Int))
    (hi : idx < 64) (hk : k < 64) (hcell : w.cell? ⟨1, idx, none⟩ = some (.int .u8 k)) :
    Calls Tryd.prog 75 #[.int .u64 x] w fun e w' => e = .returned (.int .i64 k) ∧ w' = w := by
  go_enter Tryd.func75, Tryd.ntmps75
  go_wp2_with (simp only [key])
  go_ret
  exact ⟨rfl, rfl⟩
theorem tz64_any (x : Nat) (h0 : 0 < x) (hx : x < 18446744073709551616) (w : World) (hT : Tab w) :
    Calls Tryd.prog 75 #[.int .u64 x] w fun e w' => e = .returned (.int .i64 (tz x)) ∧ w' = w := by
  have hx0 : x ≠ 0 := by omega
  obtain ⟨hlow, hk⟩ := Lib.lowest_bit 64 x hx0 hx
  obtain ⟨hi, htab⟩ := Lib.deBruijn64_at _ hk
  have hcell := hT.2 _ hi
  rw [htab] at hcell
  rw [tz_ctz h0 hx]
  exact tz64_core x _ _ w (by simp; omega) (tz64_key x _ hx hx0 hlow) hi hk hcell
set_option maxHeartbeats 400000 in
theorem tz_any (y : Int) (x : Nat) (hy : y = x) (h0 : 0 < x) (hx : x < 65537) (w : World) (hT : Tab w) :
    Calls Tryd.prog 73 #[.int .u64 y] w fun e w' => e = .returned (.int .i64 (tz x)) ∧ w' = w := by
  subst hy
  go_enter Tryd.func73, Tryd.ntmps73
  go_wp2_with (first | (go_at_call 75; refine (tz64_any x h0 (by omega) _ hT).mono ?_; rintro e w' ⟨rfl, rfl⟩))
  go_ret
  exact ⟨rfl, rfl⟩
set_option maxHeartbeats 400000 in
theorem ring_any (n : Nat) (hn : n < 65536) (w : World) (hT : Tab w) :
    Calls Tryd.prog 68 #[.int .i64 n] w fun e w' => e = .returned (.int .i64 (tz (n + 1))) ∧ w = w' := by
  go_enter Tryd.func68, Tryd.ntmps68
  go_wp2_with (first | (go_at_call 73; refine (tz_any _ (n + 1) (by omega) (by omega) (by omega) _ hT).mono ?_; rintro e w' ⟨rfl, rfl⟩))
  go_ret
  exact ⟨rfl, rfl⟩
theorem ring_any' (y : Int) (n : Nat) (hy : y = n) (hn : n < 65536) (w : World) (hT : Tab w) :
    Calls Tryd.prog 68 #[.int .i64 y] w fun e w' => e = .returned (.int .i64 (tz (n + 1))) ∧ w = w' := by subst hy; exact ring_any n hn w hT
set_option maxHeartbeats 400000 in
theorem size_any (n : Int) (a b : Nat) (ha : a < 65536) (hb : b < 65536) (w : World) :
    Calls Tryd.prog 57 #[.agg #[.int .i64 n, .int .i64 a, .int .i64 b]] w fun e w' => e = .returned (.int .i64 (distS a b : Nat)) ∧ Below w.heap.size w w' := by
  go_enter Tryd.func57, Tryd.ntmps57
  go_wp2_with (fail)
  all_goals
    go_ret
    exact ⟨ret_int (by unfold distS; omega), (Below.refl _ _).alloc (Nat.le_refl _) _⟩
end Go.Proofs.YtjhcemhnnkcjaaaDoor
