/- The works of the layers below: clasp, till, curl and bunch, at their examples. -/
import Derived.Test.YtkbfmogjhjdjmaaDoorTwA
namespace Go.Proofs.YtkbfmogjhjdjmaaDoor
open Go.RowKit
namespace Tw
set_option maxRecDepth 100000 in
set_option maxHeartbeats 4000000 in
theorem claspWorks_any (w1 : World) (hT : Cl.Tab w1) : Calls Tryd.prog 55 #[] w1 fun e w' => e = .returned (.bool true) ∧ Below w1.heap.size w1 w' := by
  have hS := Wk.start hT
  have _k0 := hT
  have _k1 := hT
  go_enter Tryd.func55, Tryd.ntmps55
  go_wp2_with (first
    | (go_at_call_of 34 (Value.slice (some ⟨w1.heap.size, 0, none⟩) 2 2); refine (w_list2 hS _ _).mono ?_; rintro e w1 ⟨g, rfl, hS2⟩; replace hS := hS2; clear hS2)
    | (go_at_call_of 34 (Value.slice (some ⟨w1.heap.size, 0, none⟩) 3 3); refine (w_list3 hS _ _ _).mono ?_; rintro e w1 ⟨g, rfl, hS2⟩; replace hS := hS2; clear hS2)
    | (go_at_call_of 34 (Value.slice (some ⟨w1.heap.size, 0, none⟩) 5 5); refine (w_list5 hS _ _ _ _ _).mono ?_; rintro e w1 ⟨g, rfl, hS2⟩; replace hS := hS2; clear hS2)
    | (go_at_call 63; refine (w_fill hS).mono ?_; rintro e w1 ⟨A, c, rfl, hS2⟩; replace hS := hS2; clear hS2)
    | (go_at_call 64; refine (w_way hS).mono ?_; rintro e w1 ⟨A, n, c, rfl, hS2⟩; replace hS := hS2; clear hS2)
    | (go_at_call 33; clear _k0; refine (w_same hS (.tail _ (.head _)) (by decide)).mono ?_; rintro e w1 ⟨rfl, hS2⟩; replace hS := hS2; clear hS2)
    | (go_at_call 33; clear _k1; refine (w_same hS (.head _) (by decide)).mono ?_; rintro e w1 ⟨rfl, hS2⟩; replace hS := hS2; clear hS2))
  go_ret
  exact ⟨rfl, hS.2.1⟩
theorem cnt_ex : Ti.cntV 3 3 0 = 5 ∧ Ti.cntE 3 3 0 = 0 := by decide +kernel
theorem tillWorks_any (w : World) (hT : Cl.Tab w) : Calls Tryd.prog 47 #[] w fun e w' => e = .returned (.bool true) ∧ Below w.heap.size w w' := by
  have hc := Lib.hid (Ti.Count_any 3 3 0 w)
  rw [cnt_ex.1, cnt_ex.2] at hc
  have hk := Lib.hid (claspWorks_any w hT)
  go_enter Tryd.func47, Tryd.ntmps47
  go_wp2_with (first
    | (go_at_call 54; (with_reducible refine hc.out.mono ?_); rintro e wz ⟨rfl, hwz⟩; replace hwz := hwz.symm; subst hwz)
    | (go_at_call 55; (with_reducible refine hk.out.mono ?_); rintro e w2 ⟨rfl, hb⟩))
  go_ret
  exact ⟨rfl, hb⟩
theorem lon_ex : Cu.longV (Cu.bts ⟨#[97, 98]⟩) 3 8 = [97, 98, 97, 99, 97, 98, 99, 97] ∧ Cu.longE (Cu.bts ⟨#[97, 98]⟩) 3 8 = 0 := by decide +kernel
theorem curlWorks_any (w : World) (hT : Cl.Tab w) : Calls Tryd.prog 44 #[] w fun e w' => e = .returned (.bool true) ∧ Below w.heap.size w w' := by
  have hc := Lib.hid (Cu.Longer_any ⟨#[97, 98]⟩ 3 8 w)
  rw [lon_ex.1, lon_ex.2] at hc
  have hk := Lib.hid (fun w' (hb : Below w.heap.size w w') => tillWorks_any w' (hT.later hb))
  go_enter Tryd.func44, Tryd.ntmps44
  go_wp2_with (first
    | (go_at_call 46; (with_reducible refine hc.out.mono ?_); rintro e w1 ⟨rfl, hb1⟩)
    | (go_at_call 47; (with_reducible refine (hk.out _ hb1).mono ?_); rintro e w2 ⟨rfl, hb⟩))
  go_ret
  exact ⟨rfl, hb1.trans (hb.mono hb1.size)⟩
theorem part_ex : pV 5 5 = 7 := by decide +kernel
theorem bunchWorks_any (w : World) (hT : Cl.Tab w) : Calls Tryd.prog 35 #[] w fun e w' => e = .returned (.bool true) ∧ Below w.heap.size w w' := by
  have hc := Lib.hid (Bu.Count_in 5 (by omega) w)
  rw [part_ex] at hc
  have hk := Lib.hid (fun w' (hb : Below w.heap.size w w') => curlWorks_any w' (hT.later hb))
  go_enter Tryd.func35, Tryd.ntmps35
  go_wp2_with (first
    | (go_at_call 43; refine hc.out.mono ?_; rintro e w1 ⟨rfl, hb1⟩)
    | (go_at_call 44; (with_reducible refine (hk.out _ hb1).mono ?_); rintro e w2 ⟨rfl, hb⟩))
  go_ret
  exact ⟨rfl, hb1.trans (hb.mono hb1.size)⟩
end Tw
end Go.Proofs.YtkbfmogjhjdjmaaDoor
