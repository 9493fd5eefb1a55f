/- The methods of a book that is none. (Printed by gennone.py.) -/
import Derived.Test.YtbgakdpbglpfaaaGreatDoorDrWi
namespace Go.Proofs.YtbgakdpbglpfaaaGreatDoor
open Go.RowKit
namespace Dr
set_option linter.unusedSimpArgs false
/-- no book, or one without a house -/
def NoneAt (w : World) (vb : Value) : Prop := vb = .pointer none ∨ ∃ g, vb = .pointer (some ⟨g, 0, none⟩) ∧ w.cell? ⟨g, 0, none⟩ = some (.pointer none)
section
variable {w w' : World} {vb : Value}
theorem NoneAt.below (h : NoneAt w vb) (hb : Below w.heap.size w w') : NoneAt w' vb := by
  rcases h with rfl | ⟨g, rfl, hc⟩
  · exact Or.inl rfl
  · exact Or.inr ⟨g, rfl, (hb.cell (p := ⟨g, 0, none⟩) (lt_cell hc)).trans hc⟩
theorem none_yes (h : NoneAt w vb) : Calls Tryz.prog 60 #[vb] w fun e w' => e = .returned (.bool true) ∧ w' = w := by
  rcases h with rfl | ⟨g, rfl, hc⟩
  · go_enter Tryz.func60, Tryz.ntmps60
    go_wp2_with (fail)
    go_ret
    exact ⟨rfl, rfl⟩
  · go_enter Tryz.func60, Tryz.ntmps60
    go_wp2_with (fail)
    go_ret
    exact ⟨rfl, rfl⟩
set_option maxRecDepth 100000 in
theorem drawer_nil (h : NoneAt w vb) (d : ByteArray) : Calls Tryz.prog 76 #[vb, .string d] w fun e w' => e = .returned (.tuple #[.pointer none, .int .i64 11]) ∧ w' = w := by
  have HN := Lib.hid (none_yes h)
  clear h
  go_enter Tryz.func76, Tryz.ntmps76
  go_wp2_with (go_at_call 60; (with_reducible refine HN.out.mono ?_); rintro e w3 ⟨rfl, hw3⟩; replace hw3 := hw3.symm; subst hw3)
  go_ret2
  exact ⟨rfl, rfl⟩
set_option maxRecDepth 100000 in
theorem sizes_nil (h : NoneAt w vb) (d : ByteArray) : Calls Tryz.prog 28 #[vb, .string d] w fun e w' => e = .returned (.tuple #[.slice none 0 0, .int .i64 11]) ∧ w' = w := by
  have HN := Lib.hid (drawer_nil h d)
  clear h
  go_enter Tryz.func28, Tryz.ntmps28
  go_wp2_with (go_at_call 76; (with_reducible refine HN.out.mono ?_); rintro e w3 ⟨rfl, hw3⟩; replace hw3 := hw3.symm; subst hw3)
  go_ret2
  exact ⟨rfl, rfl⟩
set_option maxRecDepth 100000 in
theorem stock_nil (h : NoneAt w vb) (d : ByteArray) : Calls Tryz.prog 29 #[vb, .string d] w fun e w' => e = .returned (.tuple #[.slice none 0 0, .int .i64 11]) ∧ w' = w := by
  have HN := Lib.hid (drawer_nil h d)
  clear h
  go_enter Tryz.func29, Tryz.ntmps29
  go_wp2_with (go_at_call 76; (with_reducible refine HN.out.mono ?_); rintro e w3 ⟨rfl, hw3⟩; replace hw3 := hw3.symm; subst hw3)
  go_ret2
  exact ⟨rfl, rfl⟩
set_option maxRecDepth 100000 in
theorem out_nil (h : NoneAt w vb) (d : ByteArray) : Calls Tryz.prog 32 #[vb, .string d] w fun e w' => e = .returned (.tuple #[.slice none 0 0, .int .i64 11]) ∧ w' = w := by
  have HN := Lib.hid (drawer_nil h d)
  clear h
  go_enter Tryz.func32, Tryz.ntmps32
  go_wp2_with (go_at_call 76; (with_reducible refine HN.out.mono ?_); rintro e w3 ⟨rfl, hw3⟩; replace hw3 := hw3.symm; subst hw3)
  go_ret2
  exact ⟨rfl, rfl⟩
set_option maxRecDepth 100000 in
theorem could_nil (h : NoneAt w vb) (d : ByteArray) : Calls Tryz.prog 31 #[vb, .string d] w fun e w' => e = .returned (.tuple #[.slice none 0 0, .int .i64 11]) ∧ w' = w := by
  have HN := Lib.hid (drawer_nil h d)
  clear h
  go_enter Tryz.func31, Tryz.ntmps31
  go_wp2_with (go_at_call 76; (with_reducible refine HN.out.mono ?_); rintro e w3 ⟨rfl, hw3⟩; replace hw3 := hw3.symm; subst hw3)
  go_ret2
  exact ⟨rfl, rfl⟩
set_option maxRecDepth 100000 in
theorem filled_nil (h : NoneAt w vb) (d : ByteArray) : Calls Tryz.prog 30 #[vb, .string d] w fun e w' => e = .returned (.tuple #[.slice none 0 0, .int .i64 11]) ∧ w' = w := by
  have HN := Lib.hid (none_yes h)
  clear h
  go_enter Tryz.func30, Tryz.ntmps30
  go_wp2_with (go_at_call 60; (with_reducible refine HN.out.mono ?_); rintro e w3 ⟨rfl, hw3⟩; replace hw3 := hw3.symm; subst hw3)
  go_ret2
  exact ⟨rfl, rfl⟩
set_option maxRecDepth 100000 in
theorem next_nil (h : NoneAt w vb) (d : ByteArray) (n : Int) : Calls Tryz.prog 33 #[vb, .string d, .int .i64 n] w fun e w' => e = .returned (.tuple #[.int .i64 0, .int .i64 11]) ∧ w' = w := by
  have HN := Lib.hid (drawer_nil h d)
  clear h
  go_enter Tryz.func33, Tryz.ntmps33
  go_wp2_with (go_at_call 76; (with_reducible refine HN.out.mono ?_); rintro e w3 ⟨rfl, hw3⟩; replace hw3 := hw3.symm; subst hw3)
  go_ret2
  exact ⟨rfl, rfl⟩
set_option maxRecDepth 100000 in
theorem feathers_nil (h : NoneAt w vb) (d : ByteArray) : Calls Tryz.prog 34 #[vb, .string d] w fun e w' => e = .returned (.tuple #[.int .i64 0, .int .i64 0, .int .i64 0, .int .i64 0, .int .i64 11]) ∧ w' = w := by
  have HN := Lib.hid (drawer_nil h d)
  clear h
  go_enter Tryz.func34, Tryz.ntmps34
  go_wp2_with (go_at_call 76; (with_reducible refine HN.out.mono ?_); rintro e w3 ⟨rfl, hw3⟩; replace hw3 := hw3.symm; subst hw3)
  exact bodyPost_ret (by kernel_rfl) rfl ⟨rfl, rfl⟩
set_option maxRecDepth 100000 in
theorem lines_nil (h : NoneAt w vb) : Calls Tryz.prog 23 #[vb] w fun e w' => e = .returned (.slice none 0 0) ∧ w' = w := by
  have HN := Lib.hid (none_yes h)
  clear h
  go_enter Tryz.func23, Tryz.ntmps23
  go_wp2_with (go_at_call 60; (with_reducible refine HN.out.mono ?_); rintro e w3 ⟨rfl, hw3⟩; replace hw3 := hw3.symm; subst hw3)
  go_ret
  exact ⟨rfl, rfl⟩
set_option maxRecDepth 100000 in
theorem drawers_nil (h : NoneAt w vb) : Calls Tryz.prog 35 #[vb] w fun e w' => e = .returned (.slice none 0 0) ∧ w' = w := by
  have HN := Lib.hid (none_yes h)
  clear h
  go_enter Tryz.func35, Tryz.ntmps35
  go_wp2_with (go_at_call 60; (with_reducible refine HN.out.mono ?_); rintro e w3 ⟨rfl, hw3⟩; replace hw3 := hw3.symm; subst hw3)
  go_ret
  exact ⟨rfl, rfl⟩
set_option maxRecDepth 100000 in
theorem file_nil (h : NoneAt w vb) : Calls Tryz.prog 25 #[vb] w fun e w' => e = .returned (.string ⟨#[]⟩) ∧ w' = w := by
  have HN := Lib.hid (none_yes h)
  clear h
  go_enter Tryz.func25, Tryz.ntmps25
  go_wp2_with (go_at_call 60; (with_reducible refine HN.out.mono ?_); rintro e w3 ⟨rfl, hw3⟩; replace hw3 := hw3.symm; subst hw3)
  go_ret
  exact ⟨rfl, rfl⟩
set_option maxRecDepth 100000 in
theorem undo_nil (h : NoneAt w vb) : Calls Tryz.prog 17 #[vb] w fun e w' => e = .returned (.int .i64 11) ∧ w' = w := by
  have HN := Lib.hid (none_yes h)
  clear h
  go_enter Tryz.func17, Tryz.ntmps17
  go_wp2_with (go_at_call 60; (with_reducible refine HN.out.mono ?_); rintro e w3 ⟨rfl, hw3⟩; replace hw3 := hw3.symm; subst hw3)
  go_ret
  exact ⟨rfl, rfl⟩
set_option maxRecDepth 100000 in
set_option maxHeartbeats 4000000 in
theorem try_nil (h : NoneAt w vb) (line : ByteArray) (stay : Bool) :
    Calls Tryz.prog 64 #[vb, .string line, .bool stay] w fun e w' => e = .returned (.int .i64 11) ∧ Below w.heap.size w w' := by
  have HNO : Hid (∀ w', Below w.heap.size w w' → Calls Tryz.prog 60 #[vb] w' fun e w2 => e = .returned (.bool true) ∧ w2 = w') := fun w' hb => none_yes (h.below hb)
  clear h
  go_enter_defers Tryz.func64, Tryz.ntmps64
  go_wp2_with (first
    | (with_reducible show wpList _ _ _ (⟨_, .box 4 _, _, _, _, _⟩ :: _) _ _
       refine wpList_box_cells rfl 4 _ rfl (.bool stay) #[.bool stay] rfl rfl ?_
       intro w1 g1 hG1 hgr1 hge1
       have hb1 := below_grown hgr1)
    | (with_reducible show wpList _ _ _ (⟨_, .alloc 28, _, _, _, _⟩ :: _) _ _
       refine wpList_alloc_oneC rfl 28 (.int .i64 0) rfl zero_errno rfl ?_
       intro w2 g2 hG2 hgr2 hge2
       have hb2 := hb1.trans ((below_grown hgr2).mono hb1.size)
       have c4 : w2.cell? ⟨g2, 0, none⟩ = some (.int .i64 0) := hG2.at_ 0 rfl
       have f4 := hG2.frozen 0)
    | (go_at_call 60; (with_reducible refine (HNO.out _ hb2).mono ?_); rintro e w3 ⟨rfl, hw3⟩; replace hw3 := hw3.symm; subst hw3))
  have HG : Blk (w2.setCell ⟨g2, 0, none⟩ (.int .i64 11)) g2 28 #[.int .i64 11] := hG2.set_ 0 (.int .i64 11)
  refine ⟨.int .i64 11, results_errno rfl _ rfl (HG.at_ 0 rfl), rfl, ?_⟩
  have hn : w.heap.size ≤ g2 := Nat.le_trans hb1.size hge2
  exact hb2.setCell hn _
set_option maxRecDepth 100000 in
theorem would_nil (h : NoneAt w vb) (line : ByteArray) : Calls Tryz.prog 19 #[vb, .string line] w fun e w' => e = .returned (.int .i64 11) ∧ Below w.heap.size w w' := by
  have HN := Lib.hid (try_nil h line false)
  clear h
  go_enter Tryz.func19, Tryz.ntmps19
  go_wp2_with (go_at_call 64; (with_reducible refine HN.out.mono ?_); rintro e w3 ⟨rfl, hb3⟩)
  go_ret
  exact ⟨rfl, hb3⟩
set_option maxRecDepth 100000 in
theorem do_nil (h : NoneAt w vb) (line : ByteArray) : Calls Tryz.prog 20 #[vb, .string line] w fun e w' => e = .returned (.int .i64 11) ∧ Below w.heap.size w w' := by
  have HN := Lib.hid (try_nil h line true)
  clear h
  go_enter Tryz.func20, Tryz.ntmps20
  go_wp2_with (go_at_call 64; (with_reducible refine HN.out.mono ?_); rintro e w3 ⟨rfl, hb3⟩)
  go_ret
  exact ⟨rfl, hb3⟩
end
end Dr
end Go.Proofs.YtbgakdpbglpfaaaGreatDoor
