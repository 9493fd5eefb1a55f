/- The next ring of a walk, and the rest of the walk. -/
import Derived.Test.YtjhcemhnnkcjaaaDoorProg
import Derived.Test.YtjhcemhnnkcjaaaDoorRing
import Derived.Test.YtjhcemhnnkcjaaaDoorWalked
import Derived.Deep.RegionHeld3
namespace Go.Proofs.YtjhcemhnnkcjaaaDoor
open Go.RowKit
abbrev stepS (g1 : Nat) (n : Int) (a b : Nat) (w' : World) : Prop := w'.cell? ⟨g1, 0, none⟩ = some (.int .i64 n) ∧ w'.cell? ⟨g1, 1, none⟩ = some (.int .i64 a) ∧ w'.cell? ⟨g1, 2, none⟩ = some (.int .i64 b)
theorem stepS_of {w : World} {g1 : Nat} {n : Int} {a b : Nat} (h : Blk w g1 78 (walkC n a b)) : stepS g1 n a b w := ⟨by rw [h.cell]; rfl, by rw [h.cell]; rfl, by rw [h.cell]; rfl⟩
theorem stepS_store {w : World} {g1 g3 : Nat} {n : Int} {a b : Nat} (h : stepS g1 n a b w) (hne : g1 ≠ g3) (i : Nat) (v : Value) : stepS g1 n a b (w.setCell ⟨g3, i, none⟩ v) := by
  have k : ∀ j, (w.setCell ⟨g3, i, none⟩ v).cell? ⟨g1, j, none⟩ = w.cell? ⟨g1, j, none⟩ := fun j => World.cell?_setCell_other _ _ _ _ (fun e => by have := congrArg Addr.block e; simp at this; omega)
  exact ⟨(k 0).trans h.1, (k 1).trans h.2.1, (k 2).trans h.2.2⟩
set_option maxRecDepth 100000 in
set_option maxHeartbeats 1000000 in
theorem step_up (n : Int) (a b : Nat) (hab : a < b) (hb : b < 65536) (w : World) (hT : Tab w) :
    Calls Tryd.prog 59 #[.agg (walkC n a b)] w fun e w' => e = .returned (.tuple #[.int .i64 (tz (a + 1)), .agg (walkC n (a + 1 : Nat) b)]) ∧ Below w.heap.size w w' := by
  go_enter Tryd.func59, Tryd.ntmps59
  go_wp2_with (first
    | (with_reducible show wpList _ _ _ (⟨_, .box 78 _, _, _, _, _⟩ :: _) _ _
       refine wpList_box_blk rfl 78 _ rfl _ rfl ?_
       intro w1 g1 hB1 hg1 hs1
       have hBe1 : Below w.heap.size w w1 := below_none (Below.refl _ _) hg1 (Nat.le_refl _)
       have hl1 := hB1.lt)
    | (with_reducible show wpList _ _ _ (⟨_, .alloc 78, _, _, _, _⟩ :: _) _ _
       refine wpList_alloc_blk rfl 78 rfl _ zero_walk ?_
       intro w2 g3 hB3 hg2 hs2
       have hB12 := hB1.none_ hg2
       have hBe2 := below_none hBe1 hg2 hBe1.size
       have hs3 := hBe1.size
       obtain ⟨c0, c1, c2⟩ := stepS_of hB12
       obtain ⟨d0, d1, d2⟩ := stepS_of hB3
       have f0 := hB3.frozen 0
       have f1 := hB3.frozen 1
       have f2 := hB3.frozen 2
       clear hg1 hg2))
  have hne : g1 ≠ g3 := by omega
  have hT2 := hT.later hBe2
  have hw1 : IntKind.i64.wrap ((a : Int) + 1) = ((a + 1 : Nat) : Int) := by rw [IntWalk.i64_in _ (by omega)]; omega
  go_region_held3 (fun w' => w'.cell? ⟨g1, 0, none⟩ = some (.int .i64 n) ∧ w'.cell? ⟨g1, 1, none⟩ = some (.int .i64 a) ∧ w'.cell? ⟨g1, 2, none⟩ = some (.int .i64 b))
    (first | assumption | exact ⟨c0, c1, c2⟩ | exact stepS_store (stepS_store (stepS_store (by assumption) hne _ _) hne _ _) hne _ _)
    (first | (go_at_call 68; refine (ring_any a (by omega) _ hT2.drew).mono ?_; rintro e w' ⟨rfl, rfl⟩))
  go_wp2_with (fail)
  have hBf : Blk (((w2.drew.setCell ⟨g3, 0, none⟩ (.int .i64 n)).setCell ⟨g3, 1, none⟩ (.int .i64 (a + 1 : Nat))).setCell ⟨g3, 2, none⟩ (.int .i64 b)) g3 78 (walkC n (a + 1 : Nat) b) := ((hB3.drew.set_ 0 _).set_ 1 _).set_ 2 _
  refine bodyPost_ret (results_tmp_cell rfl _ _ g3 78 _ (0, 0) _ rfl hBf Tryd.underlying78 rfl (info_walk n _ _)) rfl ⟨rfl, ?_⟩
  exact ((hBe2.drew.setCell (by show _ ≤ g3; omega) _).setCell (by show _ ≤ g3; omega) _).setCell (by show _ ≤ g3; omega) _
set_option maxRecDepth 100000 in
set_option maxHeartbeats 1000000 in
theorem step_down (n : Int) (a b : Nat) (hab : b < a) (hb : a < 65536) (w : World) (hT : Tab w) :
    Calls Tryd.prog 59 #[.agg (walkC n a b)] w fun e w' => e = .returned (.tuple #[.int .i64 (tz a), .agg (walkC n (a - 1 : Nat) b)]) ∧ Below w.heap.size w w' := by
  obtain ⟨a', rfl⟩ : ∃ a', a = a' + 1 := ⟨a - 1, by omega⟩
  go_enter Tryd.func59, Tryd.ntmps59
  go_wp2_with (first
    | (with_reducible show wpList _ _ _ (⟨_, .box 78 _, _, _, _, _⟩ :: _) _ _
       refine wpList_box_blk rfl 78 _ rfl _ rfl ?_
       intro w1 g1 hB1 hg1 hs1
       have hBe1 : Below w.heap.size w w1 := below_none (Below.refl _ _) hg1 (Nat.le_refl _)
       have hl1 := hB1.lt)
    | (with_reducible show wpList _ _ _ (⟨_, .alloc 78, _, _, _, _⟩ :: _) _ _
       refine wpList_alloc_blk rfl 78 rfl _ zero_walk ?_
       intro w2 g3 hB3 hg2 hs2
       have hB12 := hB1.none_ hg2
       have hBe2 := below_none hBe1 hg2 hBe1.size
       have hs3 := hBe1.size
       obtain ⟨c0, c1, c2⟩ := stepS_of hB12
       obtain ⟨d0, d1, d2⟩ := stepS_of hB3
       have f0 := hB3.frozen 0
       have f1 := hB3.frozen 1
       have f2 := hB3.frozen 2
       clear hg1 hg2))
  have hne : g1 ≠ g3 := by omega
  have hT2 := hT.later hBe2
  have hw1 : IntKind.i64.wrap ((a' : Int) + 1 - 1) = (a' : Int) := by rw [IntWalk.i64_in _ (by omega)]; omega
  have hw2 : IntKind.i64.wrap (a' : Int) = (a' : Int) := IntWalk.i64_in _ (by omega)
  go_region_held3 (fun w' => w'.cell? ⟨g1, 0, none⟩ = some (.int .i64 n) ∧ w'.cell? ⟨g1, 1, none⟩ = some (.int .i64 (a' + 1 : Nat)) ∧ w'.cell? ⟨g1, 2, none⟩ = some (.int .i64 b))
    (first | assumption | exact ⟨c0, c1, c2⟩ | exact stepS_store (stepS_store (stepS_store (by assumption) hne _ _) hne _ _) hne _ _)
    (first | (go_at_call 68; refine (ring_any' _ a' (by first | rfl | omega | simp) (by omega) _ hT2.drew).mono ?_; rintro e w' ⟨rfl, rfl⟩))
  go_wp2_with (fail)
  have hBf : Blk (((w2.drew.setCell ⟨g3, 0, none⟩ (.int .i64 n)).setCell ⟨g3, 1, none⟩ (.int .i64 a')).setCell ⟨g3, 2, none⟩ (.int .i64 b)) g3 78 (walkC n a' b) := ((hB3.drew.set_ 0 _).set_ 1 _).set_ 2 _
  refine bodyPost_ret (results_tmp_cell rfl _ _ g3 78 _ (0, 0) _ rfl hBf Tryd.underlying78 rfl (info_walk n _ _)) rfl ⟨rfl, ?_⟩
  exact ((hBe2.drew.setCell (by show _ ≤ g3; omega) _).setCell (by show _ ≤ g3; omega) _).setCell (by show _ ≤ g3; omega) _
end Go.Proofs.YtjhcemhnnkcjaaaDoor
