/- packet's ordered; Fill, from what fill does. -/
import Derived.Test.YthbkfhhnhiplkaaGreatDoorPkA
namespace Go.Proofs.YthbkfhhnhiplkaaGreatDoor
open Go.RowKit
namespace Pk
open Bu (natI natI_at)
set_option maxRecDepth 100000 in
set_option maxHeartbeats 2000000 in
theorem ordered_ok (A : Option Addr) (n c : Nat) (b2 o2 c2 : Nat) (ss ms : List Nat) (hS : Stk ss ms) (N : Nat) (hN : N ≤ 1000) (w : World) (B : Nat) (hB : B ≤ w.heap.size) (hr : RInts w B A n (natI ss)) (hr2 : RInts w B (some ⟨b2, o2, none⟩) n (natI ms)) : Calls Tryz.prog 115 #[.slice A n c, .slice (some ⟨b2, o2, none⟩) n c2, .int .i64 (N : Int)] w fun e w' => e = .returned (.tuple #[.agg (stC A n c (some ⟨b2, o2, none⟩) n c2), .int .i64 0]) ∧ Below w.heap.size w w' := by
  have hst := Lib.hid (fun w' (hB : B ≤ w'.heap.size) (h1 : RInts w' B A n (natI ss)) (h2 : RInts w' B (some ⟨b2, o2, none⟩) n (natI ms)) => stocked_ok A n c b2 o2 c2 ss ms hS w' B hB h1 h2)
  have hwi := Lib.hid (fun w' => within_any (N : Int) 0 1000 w')
  rw [decide_eq_true (by omega)] at hwi
  obtain ⟨T, hT⟩ : ∃ T, stC A n c (some ⟨b2, o2, none⟩) n c2 = T := ⟨_, rfl⟩
  have hT1 : T.all (·.oneCell') = true := by rw [← hT]; exact stC_one _ _ _ _ _ _
  have hT2 : (Tryz.prog.info? 191).map (·.size) = some T.size := by rw [← hT]; exact info_store _ _ _ _ _ _
  have hT3 : (stC none 0 0 none 0 0).size = T.size := by rw [← hT]; rfl
  have hTH := Lib.hid hT
  rw [hT] at hst ⊢
  clear hT
  go_enter Tryz.func115, Tryz.ntmps115
  go_wp2_with (first
    | (with_reducible show wpList _ _ _ (⟨some 6, .alloc 191, _, _, _, _⟩ :: _) _ _
       refine wpList_alloc_blk rfl 191 rfl _ zero_store ?_
       intro w3 g hG hgr hge
       have hb3 := below_none (Below.refl w.heap.size w) hgr (Nat.le_refl _))
    | (go_at_call 134; (with_reducible refine (hst.out _ (Nat.le_trans hB hb3.size) (hr.later hB hb3) (hr2.later hB hb3)).mono ?_); rintro e w4 ⟨rfl, hb4⟩
       have hG4 := hG.callee hb4
       replace hb4 := hb3.trans (hb4.mono hb3.size))
    | (with_reducible show wpList _ _ _ (⟨some 8, .alloc 191, _, _, _, _⟩ :: _) _ _
       refine wpList_alloc_blk rfl 191 rfl _ zero_store ?_
       intro w5 g8 hK hgr5 hge8
       have hb5 := below_none hb4 hgr5 hb4.size
       have hG5 := hG4.none_ hgr5
       have hgk : g8 ≠ g := by have := hG4.lt; omega)
    | (with_reducible show wpList _ _ _ (⟨_, .store 191 (.tmp 8) _, _, _, _, _⟩ :: _) _ _
       refine wpList_store_blk rfl 191 _ _ rfl g8 T rfl rfl 191 _ hK hT2 hT3 hT1 ?_
       intro w6 hK6 hgr6
       have hb6 := below_some hb5 hgr6 hb5.size (by have := hb4.size; omega)
       have hG6 := hG5.some_ hgr6 hgk.symm)
    | (go_at_call 135; (with_reducible refine (hwi.out _).mono ?_); rintro e wz ⟨rfl, hwz⟩; replace hwz := hwz.symm; subst hwz)
    | (with_reducible show wpList _ _ _ (⟨some 23, .load 191 (.tmp 8), _, _, _, _⟩ :: _) _ _
       refine wpList_load_blk rfl 191 _ rfl g8 rfl 191 T _ hK6 Tryz.underlying191 rfl hT2 ?_)
    | (with_reducible show wpList _ _ _ (⟨_, .store 191 (.tmp 6) _, _, _, _, _⟩ :: _) _ _
       refine wpList_store_blk rfl 191 _ _ rfl g T rfl rfl 191 _ hG6 hT2 hT3 hT1 ?_
       intro w7 hG7 hgr7
       have hb7 := below_some hb6 hgr7 hb6.size hge))
  exact bodyPost_ret (results_cell_tmp rfl _ _ g 191 _ (0, 0) _ rfl hG7 Tryz.underlying191 rfl hT2) rfl ⟨rfl, hb7⟩
end Pk
end Go.Proofs.YthbkfhhnhiplkaaGreatDoor
