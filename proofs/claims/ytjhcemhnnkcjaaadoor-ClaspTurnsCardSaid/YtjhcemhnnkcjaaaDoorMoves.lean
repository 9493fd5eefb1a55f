/- Moves and Move of the program. -/
import Derived.Test.YtjhcemhnnkcjaaaDoorApi1
import Derived.Test.YtjhcemhnnkcjaaaDoorMoved
import Derived.Test.YtjhcemhnnkcjaaaDoorPush
namespace Go.Proofs.YtjhcemhnnkcjaaaDoor
open Go.RowKit
/-- the rings that can be moved -/
def movesS (xs : List Int) : List Int := if chk xs = 0 then ((List.range xs.length).filter (canS xs)).map (fun (k : Nat) => (k : Int)) else []
def mvK (xs : List Int) (k : Nat) : List Int := ((List.range k).filter (canS xs)).map (fun (k : Nat) => (k : Int))
theorem mvK_yes {xs : List Int} {k : Nat} (h : canS xs k = true) : mvK xs (k + 1) = mvK xs k ++ [(k : Int)] := by simp [mvK, List.range_succ, h]
theorem mvK_no {xs : List Int} {k : Nat} (h : canS xs k = false) : mvK xs (k + 1) = mvK xs k := by simp [mvK, List.range_succ, h]
theorem mvK_le (xs : List Int) (k : Nat) : (mvK xs k).length ≤ k := by
  unfold mvK; rw [List.length_map]; have := List.length_filter_le (canS xs) (List.range k); simpa using this
theorem doesS_no {xs : List Int} {k : Nat} (h : canS xs k = false) : doesS xs k = 0 := by simp [doesS, h]
theorem doesS_yes {xs : List Int} {k : Nat} (h : canS xs k = true) : (doesS xs k != 0) = true := by
  simp only [doesS, h]; by_cases h1 : xs[k]? = some 1 <;> simp [h1]
theorem RetL_own {w w' : World} {base : Nat} {v : Value} {xs : List Int} {er : Int} (h : OwnI w' base v xs) (hl : xs.length ≤ 65536) (hb : Below w.heap.size w w') : RetL xs er w (.returned (.tuple #[v, .int .i64 er])) w' := by
  obtain ⟨A, c, rfl, hr⟩ := h.reads
  exact ⟨A, _, c, rfl, hr, hl, hb⟩
set_option maxRecDepth 100000 in
set_option maxHeartbeats 1000000 in
theorem Moves_any (A : Option Addr) (n c : Nat) (xs : List Int) (w : World) (ha : RInts w w.heap.size A n xs) (hn : n ≤ maxLen) :
    Calls Tryd.prog 41 #[.slice A n c] w (RetL (movesS xs) (chk xs) w) := by
  by_cases hx : chk xs = 0
  · have hX := Lib.hid hx
    have hb0 : (chk xs != 0) = false := by simpa using hx
    have hz := chk_zero hx
    rw [ha.len] at hz
    have hL := Lib.hid ha.len
    have hn16 := hz.2.1
    have hM : movesS xs = mvK xs n := by rw [movesS, if_pos hx, hL.out]; rfl
    rw [hM, hx]
    clear hx hz hM
    go_enter Tryd.func41, Tryd.ntmps41
    go_wp2_with (first
      | (go_at_call 49
         refine (laid_ok A n c xs w ha hn hX.out).mono ?_
         rintro e w1 ⟨rfl, hb1⟩)
      | (with_reducible show wpList _ _ _ (⟨_, .alloc 68, _, _, _, _⟩ :: _) _ _
         refine wpList_alloc_blk rfl 68 rfl _ zero_rest ?_
         intro w2 g hB hg2 hs2
         have hb2 := below_none hb1 hg2 hb1.size)
      | (with_reducible show wpList _ _ _ (⟨_, .store 68 _ _, _, _, _, _⟩ :: _) _ _
         refine wpList_store_blk rfl 68 _ _ rfl g (restC n (pad xs)) rfl rfl 68 (restC 0 (pad [])) hB (info_rest' _ _) (restC_sizes _ _ _ _) (restC_one _ _) ?_
         intro w3 hB3 hg3
         have hgg : w.heap.size ≤ g := by have := hb1.size; omega
         have hb3 := below_some hb2 hg3 hb2.size hgg
         have hc0 : w3.cell? ⟨g, 0, none⟩ = some (.int .i64 (n : Int)) := by rw [hB3.cell, restC_zero]))
    clear hb1 hb2 hB hg2 hg3 hs2 hb0
    go_loopw [18, 6] (fun i v wr => ∃ k : Nat, k ≤ n ∧ i = .int .i64 k ∧ OwnI wr w.heap.size v (mvK xs k) ∧ Blk wr g 68 (restC n (pad xs)) ∧ Below w.heap.size w wr) (fun i _ _ => n - (intOf i).toNat)
    case atStart => exact ⟨0, by omega, rfl, OwnI.nil _ _, hB3, hb3⟩
    case round =>
      clear hB3 hb3 hc0
      obtain ⟨k, hk, rfl, hown, hB3, hb3⟩ := hrel
      by_cases hlt : k < n
      · cases hc : canS xs k with
        | false =>
          have hD := Lib.hid (doesS_no hc)
          have hN := Lib.hid (mvK_no hc)
          clear hc
          go_wp2_with (first
            | (with_reducible show wpList _ _ _ (⟨_, .load 68 _, _, _, _, _⟩ :: _) _ _
               refine wpList_load_blk rfl 68 _ rfl g rfl 68 _ _ hB3 Tryd.underlying68 rfl (info_rest' _ _) ?_)
            | (go_at_call 70
               refine (does_any n k xs hL.out hn16 hlt _).mono ?_
               rintro e w4 ⟨rfl, hb4⟩
               rw [hD.out]))
          go_roundw
          case rel => exact ⟨k + 1, by omega, by go_num, by rw [hN.out]; exact hown.callee hb4, hB3.callee hb4, hb3.trans (hb4.mono hb3.size)⟩
          case measure => simp [intOf]; omega
        | true =>
          have hD := doesS_yes hc
          have hN := Lib.hid (mvK_yes hc)
          have hle := mvK_le xs k
          clear hc
          go_wp2_with (first
            | (with_reducible show wpList _ _ _ (⟨_, .load 68 _, _, _, _, _⟩ :: _) _ _
               refine wpList_load_blk rfl 68 _ rfl g rfl 68 _ _ hB3 Tryd.underlying68 rfl (info_rest' _ _) ?_)
            | (go_at_call 70
               refine (does_any n k xs hL.out hn16 hlt _).mono ?_
               rintro e w4 ⟨rfl, hb4⟩
               have hown4 := hown.callee hb4
               have hB4 := hB3.callee hb4
               have hbe4 := hb3.trans (hb4.mono hb3.size)
               have hsz4 := hbe4.size)
            | (at_builtin
               refine wpList_push rfl _ _ rfl rfl (hown4.none_ (World.grownBy_alloc w4 _ none)) w4.heap.size 1 k rfl (Blk.new _ _ _) (by omega) (by simp; omega) ?_
               intro g5 cap5 w5 hown5 hg5 hat5 hlt5))
          go_roundw
          case rel =>
            refine ⟨k + 1, by omega, by go_num, by rw [hN.out]; exact hown5, (hB4.alloc _).grown hg5 (fun e => (hown4.blk_ne hB4 (by decide)) e.symm), (hbe4.alloc hsz4 _).grown hg5 (by simp; omega) (fun j hj => hown4.ge hj)⟩
          case measure => simp [intOf]; omega
      · obtain rfl : k = n := by omega
        have hle := mvK_le xs k
        go_wp2_with (fail)
        go_ret2
        exact RetL_own hown (by omega) hb3
  · have hX := Lib.hid hx
    have hb0 : (chk xs != 0) = true := by simpa using hx
    have hM : movesS xs = [] := by rw [movesS, if_neg hx]
    rw [hM]
    clear hx hM
    go_enter Tryd.func41, Tryd.ntmps41
    go_wp2_with (first
      | (go_at_call 49
         refine (laid_bad A n c xs w ha hn hX.out).mono ?_
         rintro e w1 ⟨rfl, hb1⟩)
      | (with_reducible show wpList _ _ _ (⟨_, .alloc 68, _, _, _, _⟩ :: _) _ _
         refine wpList_alloc_blk rfl 68 rfl _ zero_rest ?_
         intro w2 g hB hg2 hs2
         have hb2 := below_none hb1 hg2 hb1.size)
      | (with_reducible show wpList _ _ _ (⟨_, .store 68 _ _, _, _, _, _⟩ :: _) _ _
         refine wpList_store_blk rfl 68 _ _ rfl g (restC 0 (pad [])) rfl rfl 68 (restC 0 (pad [])) hB (info_rest' _ _) (restC_sizes _ _ _ _) (restC_one _ _) ?_
         intro w3 hB3 hg3
         have hgg : w.heap.size ≤ g := by have := hb1.size; omega
         have hb3 := below_some hb2 hg3 hb2.size hgg))
    go_ret2
    exact RetL_nil hb3
end Go.Proofs.YtjhcemhnnkcjaaaDoor
