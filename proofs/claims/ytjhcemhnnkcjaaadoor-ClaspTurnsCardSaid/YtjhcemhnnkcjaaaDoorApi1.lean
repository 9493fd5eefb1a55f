/- Check, Number, Position, Distance, At, Farthest of the program. -/
import Derived.Test.YtjhcemhnnkcjaaaDoorProg
import Derived.Test.YtjhcemhnnkcjaaaDoorWalked
import Derived.Test.YtjhcemhnnkcjaaaDoorRing
import Derived.Test.YtjhcemhnnkcjaaaDoorList
import Derived.Test.YtjhcemhnnkcjaaaDoorNumbered
namespace Go.Proofs.YtjhcemhnnkcjaaaDoor
open Go.RowKit
/-- a list and an error that a call hands back -/
def RetL (ys : List Int) (er : Int) (w : World) (e : Ending) (w' : World) : Prop :=
  ∃ A n c, e = .returned (.tuple #[.slice A n c, .int .i64 er]) ∧ RInts w' w'.heap.size A n ys ∧ n ≤ 65536 ∧ Below w.heap.size w w'
/-- a number and an error that a call hands back -/
def RetI (y : Int) (er : Int) (w : World) (e : Ending) (w' : World) : Prop := e = .returned (.tuple #[.int .i64 y, .int .i64 er]) ∧ Below w.heap.size w w'
def RetE (er : Int) (w : World) (e : Ending) (w' : World) : Prop := e = .returned (.int .i64 er) ∧ Below w.heap.size w w'
theorem RetL_nil {w w' : World} {er : Int} (hb : Below w.heap.size w w') : RetL [] er w (.returned (.tuple #[.slice none 0 0, .int .i64 er])) w' := ⟨none, 0, 0, rfl, RInts.none_, by omega, hb⟩
theorem laid_any (A : Option Addr) (n c : Nat) (xs : List Int) (w : World) (ha : RInts w w.heap.size A n xs) (hn : n ≤ maxLen) :
    Calls Tryd.prog 49 #[.slice A n c] w fun e w' => ∃ m ys, e = .returned (.tuple #[.agg (restC m (pad ys)), .int .i64 (chk xs)]) ∧ Below w.heap.size w w' ∧ (chk xs = 0 → m = n ∧ ys = xs) := by
  by_cases hc : chk xs = 0
  · exact (laid_ok A n c xs w ha hn hc).mono fun e w' ⟨he, hb⟩ => ⟨n, xs, by rw [he, hc], hb, fun _ => ⟨rfl, rfl⟩⟩
  · exact (laid_bad A n c xs w ha hn hc).mono fun e w' ⟨he, hb⟩ => ⟨0, [], by rw [he], hb, fun h => absurd h hc⟩

set_option maxHeartbeats 400000 in
theorem Check_any (A : Option Addr) (n c : Nat) (xs : List Int) (w : World) (ha : RInts w w.heap.size A n xs) (hn : n ≤ maxLen) :
    Calls Tryd.prog 46 #[.slice A n c] w (RetE (chk xs) w) := by
  go_enter Tryd.func46, Tryd.ntmps46
  go_wp2_with (first
    | (go_at_call 49
       refine (laid_any A n c xs w ha hn).mono ?_
       rintro e w1 ⟨m, ys, rfl, hb1, hc⟩
       clear hc)
    | (with_reducible show wpList _ _ _ (⟨_, .alloc 68, _, _, _, _⟩ :: _) _ _
       refine wpList_alloc_blk rfl 68 rfl _ zero_rest ?_
       intro w2 g hB hg2 hs2
       have hb2 := below_none hb1 hg2 hb1.size)
    | (with_reducible show wpList _ _ _ (⟨_, .store 68 _ _, _, _, _, _⟩ :: _) _ _
       refine wpList_store_blk rfl 68 _ _ rfl g (restC m (pad ys)) rfl rfl 68 (restC 0 (pad [])) hB (info_rest' _ _) (restC_sizes _ _ _ _) (restC_one _ _) ?_
       intro w3 hB3 hg3
       have hb3 := below_some hb2 hg3 hb2.size (by have := hb1.size; omega)))
  go_ret
  exact ⟨rfl, hb3⟩

set_option maxHeartbeats 400000 in
theorem Number_any (A : Option Addr) (n c : Nat) (xs : List Int) (w : World) (ha : RInts w w.heap.size A n xs) (hn : n ≤ maxLen) :
    Calls Tryd.prog 16 #[.slice A n c] w (RetI (if chk xs = 0 then (numS xs : Int) else 0) (chk xs) w) := by
  by_cases hx : chk xs = 0
  · have hX := Lib.hid hx
    have hb0 : (chk xs != 0) = false := by simpa using hx
    clear hx
    go_enter Tryd.func16, Tryd.ntmps16
    go_wp2_with (first
      | (go_at_call 49
         refine (laid_any A n c xs w ha hn).mono ?_
         rintro e w1 ⟨m, ys, rfl, hb1, hc⟩
         obtain ⟨rfl, rfl⟩ := hc hX.out
         clear hc)
      | (with_reducible show wpList _ _ _ (⟨_, .alloc 68, _, _, _, _⟩ :: _) _ _
         refine wpList_alloc_blk rfl 68 rfl _ zero_rest ?_
         intro w2 g hB hg2 hs2
         have hb2 := below_none hb1 hg2 hb1.size)
      | (with_reducible show wpList _ _ _ (⟨_, .store 68 _ _, _, _, _, _⟩ :: _) _ _
         refine wpList_store_blk rfl 68 _ _ rfl g (restC m (pad ys)) rfl rfl 68 (restC 0 (pad [])) hB (info_rest' _ _) (restC_sizes _ _ _ _) (restC_one _ _) ?_
         intro w3 hB3 hg3
         have hb3 := below_some hb2 hg3 hb2.size (by have := hb1.size; omega))
      | (with_reducible show wpList _ _ _ (⟨_, .load 68 _, _, _, _, _⟩ :: _) _ _
         refine wpList_load_blk rfl 68 _ rfl g rfl 68 _ _ hB3 Tryd.underlying68 rfl (info_rest' _ _) ?_)
      | (go_at_call 50
         refine (number_pad m ys hX.out _).mono ?_
         rintro e w4 ⟨rfl, hb4⟩
         have hb5 := hb3.trans (hb4.mono hb3.size)))
    go_ret2
    exact ⟨rfl, hb5⟩
  · have hX := Lib.hid hx
    have hb0 : (chk xs != 0) = true := by simpa using hx
    clear hx
    go_enter Tryd.func16, Tryd.ntmps16
    go_wp2_with (first
      | (go_at_call 49
         refine (laid_any A n c xs w ha hn).mono ?_
         rintro e w1 ⟨m, ys, rfl, hb1, hc⟩
         clear hc)
      | (with_reducible show wpList _ _ _ (⟨_, .alloc 68, _, _, _, _⟩ :: _) _ _
         refine wpList_alloc_blk rfl 68 rfl _ zero_rest ?_
         intro w2 g hB hg2 hs2
         have hb2 := below_none hb1 hg2 hb1.size)
      | (with_reducible show wpList _ _ _ (⟨_, .store 68 _ _, _, _, _, _⟩ :: _) _ _
         refine wpList_store_blk rfl 68 _ _ rfl g (restC m (pad ys)) rfl rfl 68 (restC 0 (pad [])) hB (info_rest' _ _) (restC_sizes _ _ _ _) (restC_one _ _) ?_
         intro w3 hB3 hg3
         have hb3 := below_some hb2 hg3 hb2.size (by have := hb1.size; omega)))
    go_ret2
    exact ⟨rfl, hb3⟩
end Go.Proofs.YtjhcemhnnkcjaaaDoor
