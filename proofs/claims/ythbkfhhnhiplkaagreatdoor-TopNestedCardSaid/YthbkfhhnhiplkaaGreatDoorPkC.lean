/- packet's fill: what the closure tells. -/
import Derived.Test.YthbkfhhnhiplkaaGreatDoorPkB
import Derived.Test.YthbkfhhnhiplkaaGreatDoorRowK
namespace Go.Proofs.YthbkfhhnhiplkaaGreatDoor
open Go.RowKit
namespace Pk
/-- the cells that the closure reads -/
structure CoC (w : World) (g6 g14 g10 g16 F N : Nat) (few : List Int) (r size j : Nat) : Prop where
  c6 : w.cell? ⟨g6, 0, none⟩ = some (.slice (some ⟨F, 0, none⟩) (N + 1) (N + 1))
  c14 : w.cell? ⟨g14, 0, none⟩ = some (.int .i64 (r : Int))
  c10 : w.cell? ⟨g10, 0, none⟩ = some (.int .i64 (size : Int))
  c16 : w.cell? ⟨g16, 0, none⟩ = some (.int .i64 (j : Int))
  cf : ∀ x, x ≤ N → w.cell? ⟨F, x, none⟩ = some (.int .i64 (few.getD x 0))
theorem CoC.drewN {w : World} {g6 g14 g10 g16 F N : Nat} {few : List Int} {r size j : Nat} (h : CoC w g6 g14 g10 g16 F N few r size j) (q : Nat) : CoC (w.drewN q) g6 g14 g10 g16 F N few r size j :=
  ⟨h.c6, h.c14, h.c10, h.c16, h.cf⟩
/-- the numbers of packets that a row keeps -/
def few_ok (N : Nat) (few : List Int) : Prop := few.length = N + 1 ∧ ∀ x ∈ few, 0 ≤ x ∧ x ≤ 1001
set_option maxRecDepth 100000 in
set_option maxHeartbeats 2000000 in
theorem cost_any (g6 g14 g10 g16 F N : Nat) (few : List Int) (r size j i x : Nat) (hN : N ≤ 1000) (hx : r + i * size = x) (hxN : x ≤ N) (hi : i ≤ 1000) (hj : j ≤ 1000) (z : Int) (hz : few.getD x 0 = z) (hz0 : 0 ≤ z) (hz1 : z ≤ 1001) (w : World) (h : CoC w g6 g14 g10 g16 F N few r size j) :
    Calls Tryz.prog 136 #[.int .i64 (i : Int), .pointer (some ⟨g6, 0, none⟩), .pointer (some ⟨g14, 0, none⟩), .pointer (some ⟨g10, 0, none⟩), .pointer (some ⟨g16, 0, none⟩)] w fun e w' => e = .returned (.int .i64 (z + j - i)) ∧ ∃ q, w' = w.drewN q := by
  obtain ⟨k6, k14, k10, k16, kf⟩ := h
  have kx := kf x hxN
  rw [hz] at kx
  obtain ⟨p, hp⟩ : ∃ p, i * size = p := ⟨_, rfl⟩
  have hpi : (i : Int) * size = p := by rw [← hp]; simp
  have hpx : (r : Int) + p = x := by rw [← hx, hp]; simp
  have hxi : (x : Int) < N + 1 := by omega
  clear hx kf hz
  go_enter Tryz.func136, Tryz.ntmps136
  go_wp2_with (fail)
  go_quiet (fail)
  go_wp2_with (fail)
  go_ret
  exact ⟨rfl, _, rfl⟩
end Pk
end Go.Proofs.YthbkfhhnhiplkaaGreatDoor
