/- DresserNone: an invalid book returns nothing. (Printed by genlawnone.py.) -/
import Derived.Test.YtbgakdpbglpfaaaGreatDoorDrXf
namespace Go.Proofs.YtbgakdpbglpfaaaGreatDoor
open Go.RowKit
namespace Dr
set_option linter.unusedSimpArgs false
theorem build_book (w : World) : (Instr.build 39 #[]).run Tryz.prog w = .ok (.agg #[.pointer none, .slice none 0 0]) w := by
  go_simp
set_option maxRecDepth 100000 in
set_option maxHeartbeats 4000000 in
theorem none_law (line word : ByteArray) (n : Int) (w : World) (T : Tabs w) : Calls Tryz.prog 5 #[.string line, .string word, .int .i64 n] w fun e w' => e = .returned (.bool true) ∧ Below w.heap.size w w' := by
  have HT := Lib.hid T
  have HWO := Lib.hid (fun (w' : World) (hb : Below w.heap.size w w') => works_any w' (T.below hb))
  have hbd := build_book
  clear T
  by_cases h1 : (20000 : Int) < line.size
  · go_enter Tryz.func5, Tryz.ntmps5
    go_wp2_with (go_at_call 14; (with_reducible refine (HWO.out _ (Below.refl _ _)).mono ?_); rintro e w3 ⟨rfl, hb3⟩)
    go_ret
    exact ⟨rfl, hb3⟩
  by_cases h2 : (20000 : Int) < word.size
  · go_enter Tryz.func5, Tryz.ntmps5
    go_wp2_with (go_at_call 14; (with_reducible refine (HWO.out _ (Below.refl _ _)).mono ?_); rintro e w3 ⟨rfl, hb3⟩)
    go_ret
    exact ⟨rfl, hb3⟩
  go_enter Tryz.func5, Tryz.ntmps5
  go_wp2_with (with_reducible show wpList _ _ _ (⟨_, .box 39 _, _, _, _, _⟩ :: _) _ _
               refine wpList_box_blk rfl 39 _ rfl #[.pointer none, .slice none 0 0] rfl ?_
               intro wz gz hG hgr hge)
  have hbz := below_grown hgr
  go_loopw [9] (fun v wr => ∃ i : Nat, i ≤ 2 ∧ v = .int .i64 i ∧ Below wz.heap.size wz wr) (fun v _ => 2 - (intOf v).toNat)
  case atStart => exact ⟨0, by omega, rfl, Below.refl _ _⟩
  case round =>
    obtain ⟨i, hi, rfl, hb⟩ := hrel
    by_cases hlt : i < 2
    · by_cases hi0 : i = 0
      · obtain rfl : i = 0 := by omega
        have HA : Hid (NoneAt wr (.pointer none)) := Or.inl rfl
        go_wp2_with (first
          | (go_at_call 28; (with_reducible refine (sizes_nil HA.out word).mono ?_); rintro e wq ⟨rfl, hw⟩; replace hw := hw.symm; subst hw)
          | (go_at_call 29; (with_reducible refine (stock_nil HA.out word).mono ?_); rintro e wq ⟨rfl, hw⟩; replace hw := hw.symm; subst hw)
          | (go_at_call 30; (with_reducible refine (filled_nil HA.out word).mono ?_); rintro e wq ⟨rfl, hw⟩; replace hw := hw.symm; subst hw)
          | (go_at_call 31; (with_reducible refine (could_nil HA.out word).mono ?_); rintro e wq ⟨rfl, hw⟩; replace hw := hw.symm; subst hw)
          | (go_at_call 32; (with_reducible refine (out_nil HA.out word).mono ?_); rintro e wq ⟨rfl, hw⟩; replace hw := hw.symm; subst hw)
          | (go_at_call 34; (with_reducible refine (feathers_nil HA.out word).mono ?_); rintro e wq ⟨rfl, hw⟩; replace hw := hw.symm; subst hw)
          | (go_at_call 33; (with_reducible refine (next_nil HA.out word n).mono ?_); rintro e wq ⟨rfl, hw⟩; replace hw := hw.symm; subst hw)
          | (go_at_call 20; (with_reducible refine (do_nil HA.out line).mono ?_); rintro e w3 ⟨rfl, hb3⟩; have HA3 := Lib.hid (HA.out.below hb3))
          | (go_at_call 19; (with_reducible refine (would_nil HA3.out line).mono ?_); rintro e w4 ⟨rfl, hb4⟩; have HA4 := Lib.hid (HA3.out.below hb4))
          | (go_at_call 17; (with_reducible refine (undo_nil HA4.out).mono ?_); rintro e wq ⟨rfl, hw⟩; replace hw := hw.symm; subst hw)
          | (go_at_call 23; (with_reducible refine (lines_nil HA4.out).mono ?_); rintro e wq ⟨rfl, hw⟩; replace hw := hw.symm; subst hw)
          | (go_at_call 35; (with_reducible refine (drawers_nil HA4.out).mono ?_); rintro e wq ⟨rfl, hw⟩; replace hw := hw.symm; subst hw)
          | (go_at_call 25; (with_reducible refine (file_nil HA4.out).mono ?_); rintro e wq ⟨rfl, hw⟩; replace hw := hw.symm; subst hw)
          | fail)
        go_roundw
        case rel => exact ⟨1, by omega, by go_num, hb.trans ((hb3.trans (hb4.mono hb3.size)).mono hb.size)⟩
        case measure => simp only [intOf]; omega
      · obtain rfl : i = 1 := by omega
        have HA : Hid (NoneAt wr (.pointer (some ⟨gz, 0, none⟩))) := Or.inr ⟨gz, rfl, (hG.below hb hG.lt).at_ 0 rfl⟩
        go_wp2_with (first
          | (go_at_call 28; (with_reducible refine (sizes_nil HA.out word).mono ?_); rintro e wq ⟨rfl, hw⟩; replace hw := hw.symm; subst hw)
          | (go_at_call 29; (with_reducible refine (stock_nil HA.out word).mono ?_); rintro e wq ⟨rfl, hw⟩; replace hw := hw.symm; subst hw)
          | (go_at_call 30; (with_reducible refine (filled_nil HA.out word).mono ?_); rintro e wq ⟨rfl, hw⟩; replace hw := hw.symm; subst hw)
          | (go_at_call 31; (with_reducible refine (could_nil HA.out word).mono ?_); rintro e wq ⟨rfl, hw⟩; replace hw := hw.symm; subst hw)
          | (go_at_call 32; (with_reducible refine (out_nil HA.out word).mono ?_); rintro e wq ⟨rfl, hw⟩; replace hw := hw.symm; subst hw)
          | (go_at_call 34; (with_reducible refine (feathers_nil HA.out word).mono ?_); rintro e wq ⟨rfl, hw⟩; replace hw := hw.symm; subst hw)
          | (go_at_call 33; (with_reducible refine (next_nil HA.out word n).mono ?_); rintro e wq ⟨rfl, hw⟩; replace hw := hw.symm; subst hw)
          | (go_at_call 20; (with_reducible refine (do_nil HA.out line).mono ?_); rintro e w3 ⟨rfl, hb3⟩; have HA3 := Lib.hid (HA.out.below hb3))
          | (go_at_call 19; (with_reducible refine (would_nil HA3.out line).mono ?_); rintro e w4 ⟨rfl, hb4⟩; have HA4 := Lib.hid (HA3.out.below hb4))
          | (go_at_call 17; (with_reducible refine (undo_nil HA4.out).mono ?_); rintro e wq ⟨rfl, hw⟩; replace hw := hw.symm; subst hw)
          | (go_at_call 23; (with_reducible refine (lines_nil HA4.out).mono ?_); rintro e wq ⟨rfl, hw⟩; replace hw := hw.symm; subst hw)
          | (go_at_call 35; (with_reducible refine (drawers_nil HA4.out).mono ?_); rintro e wq ⟨rfl, hw⟩; replace hw := hw.symm; subst hw)
          | (go_at_call 25; (with_reducible refine (file_nil HA4.out).mono ?_); rintro e wq ⟨rfl, hw⟩; replace hw := hw.symm; subst hw)
          | fail)
        go_roundw
        case rel => exact ⟨2, by omega, by go_num, hb.trans ((hb3.trans (hb4.mono hb3.size)).mono hb.size)⟩
        case measure => simp only [intOf]; omega
    · obtain rfl : i = 2 := by omega
      have hbw := hbz.trans (hb.mono hbz.size)
      go_wp2_with (go_at_call 14; (with_reducible refine (HWO.out _ hbw).mono ?_); rintro e w3 ⟨rfl, hb3⟩)
      go_ret
      exact ⟨rfl, hbw.trans (hb3.mono hbw.size)⟩
end Dr
end Go.Proofs.YtbgakdpbglpfaaaGreatDoor
