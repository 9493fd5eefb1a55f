/- branch's asked, numbers, Write. -/
import Derived.Test.YthbkfhhnhiplkaaDoorBrG
namespace Go.Proofs.YthbkfhhnhiplkaaDoor
open Go.RowKit
namespace Br
open Bu (natI natI_at)
set_option maxRecDepth 100000 in
set_option maxHeartbeats 1000000 in
theorem asked_ok (n : Nat) (ts : List (Nat × Nat)) (hT : Tree n ts) (h2 : 2 ≤ n) (hP : ∀ i, i < n - 2 → OkS n (pruW (woodT n ts ts.length) i)) (gt cc : Nat) (w : World) (hW : Blk w gt 37 (tArr ts).toArray) :
    Calls Tryd.prog 47 #[.agg #[.int .i64 (n : Int), .slice (some ⟨gt, 0, none⟩) ts.length cc], .iface 76 (.agg #[])] w fun e w' => (∃ A cp, e = .returned (.tuple #[.iface 25 (.slice A (n - 2) cp), .int .i64 0]) ∧ RInts w' w'.heap.size A (n - 2) (natI (pruL (woodT n ts ts.length) (n - 2)))) ∧ Below w.heap.size w w' := by
  have cg := Lib.hid (fun w' (h : Blk w' gt 37 (tArr ts).toArray) => grown_ok n ts hT gt cc w' h)
  have hl : (woodT n ts ts.length).length = n := woodI_len _ _
  obtain ⟨WS, hWS⟩ : ∃ x, woodT n ts ts.length = x := ⟨_, rfl⟩
  rw [hWS] at cg hP hl ⊢
  have h9 := hT.n9
  have ca := Lib.hid (fun gw c w' (h : Blk w' gw 89 (uArr WS)) => ask_ok gw n c WS hl h2 h9 hP w' h)
  obtain ⟨m, hm⟩ : ∃ m, ts.length = m := ⟨_, rfl⟩
  rw [hm] at cg ⊢
  have hWgt := Lib.hid (fun w' (hb : Below w.heap.size w w') => hW.below hb hW.lt)
  clear hWS hP hT hm hW
  go_enter Tryd.func47, Tryd.ntmps47
  go_wp2_with (first
    | (with_reducible show wpList _ _ _ (⟨_, .box 57 (.tmp 0), _, _, _, _⟩ :: _) _ _
       refine wpList_box_blk rfl 57 _ rfl #[.int .i64 (n : Int), .slice (some ⟨gt, 0, none⟩) m cc] rfl ?_
       intro w1 g1 hG hgr hge
       have hx0 : w1.cell? ⟨g1, 0, none⟩ = some (.int .i64 (n : Int)) := hG.cell 0
       have hx1 : w1.cell? ⟨g1, 1, none⟩ = some (.slice (some ⟨gt, 0, none⟩) m cc) := hG.cell 1
       have hb1 := below_none (Below.refl w.heap.size w) hgr (Nat.le_refl _))
    | (go_at_call 56; (with_reducible refine (cg.out _ (hWgt.out _ hb1)).mono ?_); rintro e w2 ⟨gw, rfl, hgw, hB2, hb2⟩
       have hbe2 := hb1.trans (hb2.mono hb1.size))
    | (go_at_call 120; (with_reducible refine (ca.out _ _ _ hB2).mono ?_); rintro e w3 ⟨⟨A, cp, rfl, hr3⟩, hb3⟩
       have hbe3 := hbe2.trans (hb3.mono hbe2.size)))
  go_ret2
  exact ⟨⟨_, _, rfl, hr3⟩, hbe3⟩
theorem list_of (A : Option Addr) (n c : Nat) (w : World) : (Instr.typeAssert (.iface 25 (.slice A n c)) 20 25 true).run Tryd.prog w = .ok (.tuple #[.slice A n c, .bool true]) w := by kernel_rfl
set_option maxRecDepth 100000 in
set_option maxHeartbeats 1000000 in
theorem numbers_ok (n : Nat) (ts : List (Nat × Nat)) (hT : Tree n ts) (h2 : 2 ≤ n) (hP : ∀ i, i < n - 2 → OkS n (pruW (woodT n ts ts.length) i)) (gt cc : Nat) (w : World) (hW : Blk w gt 37 (tArr ts).toArray) :
    Calls Tryd.prog 38 #[.agg #[.int .i64 (n : Int), .slice (some ⟨gt, 0, none⟩) ts.length cc], .iface 76 (.agg #[])] w fun e w' => (∃ A cp, e = .returned (.tuple #[.slice A (n - 2) cp, .int .i64 0]) ∧ RInts w' w'.heap.size A (n - 2) (natI (pruL (woodT n ts ts.length) (n - 2)))) ∧ Below w.heap.size w w' := by
  have cg := Lib.hid (fun w' (h : Blk w' gt 37 (tArr ts).toArray) => asked_ok n ts hT h2 hP gt cc w' h)
  obtain ⟨WS, hWS⟩ : ∃ x, woodT n ts ts.length = x := ⟨_, rfl⟩
  rw [hWS] at cg ⊢
  obtain ⟨m, hm⟩ : ∃ m, ts.length = m := ⟨_, rfl⟩
  rw [hm] at cg ⊢
  have hWgt := Lib.hid (fun w' (hb : Below w.heap.size w w') => hW.below hb hW.lt)
  clear hWS hP hT hm hW
  have hta := list_of
  go_enter Tryd.func38, Tryd.ntmps38
  go_wp2_with (first
    | (with_reducible show wpList _ _ _ (⟨_, .box 57 (.tmp 0), _, _, _, _⟩ :: _) _ _
       refine wpList_box_blk rfl 57 _ rfl #[.int .i64 (n : Int), .slice (some ⟨gt, 0, none⟩) m cc] rfl ?_
       intro w1 g1 hG hgr hge
       have hx0 : w1.cell? ⟨g1, 0, none⟩ = some (.int .i64 (n : Int)) := hG.cell 0
       have hx1 : w1.cell? ⟨g1, 1, none⟩ = some (.slice (some ⟨gt, 0, none⟩) m cc) := hG.cell 1
       have hb1 := below_none (Below.refl w.heap.size w) hgr (Nat.le_refl _))
    | (go_at_call 47; (with_reducible refine (cg.out _ (hWgt.out _ hb1)).mono ?_); rintro e w3 ⟨⟨A, cp, rfl, hr3⟩, hb3⟩
       have hbe3 := hb1.trans (hb3.mono hb1.size)))
  go_ret2
  exact ⟨⟨_, _, rfl, hr3⟩, hbe3⟩
set_option maxRecDepth 100000 in
set_option maxHeartbeats 1000000 in
theorem Write_ok (n : Nat) (ts : List (Nat × Nat)) (hT : Tree n ts) (h2 : 2 ≤ n) (hP : ∀ i, i < n - 2 → OkS n (pruW (woodT n ts ts.length) i)) (gt cc : Nat) (w : World) (hW : Blk w gt 37 (tArr ts).toArray) :
    Calls Tryd.prog 23 #[.agg #[.int .i64 (n : Int), .slice (some ⟨gt, 0, none⟩) ts.length cc]] w fun e w' => (∃ A cp, e = .returned (.tuple #[.slice A (n - 2) cp, .int .i64 0]) ∧ RInts w' w'.heap.size A (n - 2) (natI (pruL (woodT n ts ts.length) (n - 2)))) ∧ Below w.heap.size w w' := by
  have cg := Lib.hid (fun w' (h : Blk w' gt 37 (tArr ts).toArray) => numbers_ok n ts hT h2 hP gt cc w' h)
  obtain ⟨WS, hWS⟩ : ∃ x, woodT n ts ts.length = x := ⟨_, rfl⟩
  rw [hWS] at cg ⊢
  obtain ⟨m, hm⟩ : ∃ m, ts.length = m := ⟨_, rfl⟩
  rw [hm] at cg ⊢
  have hWgt := Lib.hid (fun w' (hb : Below w.heap.size w w') => hW.below hb hW.lt)
  clear hWS hP hT hm hW
  go_enter Tryd.func23, Tryd.ntmps23
  go_wp2_with (first
    | (with_reducible show wpList _ _ _ (⟨_, .box 57 (.tmp 0), _, _, _, _⟩ :: _) _ _
       refine wpList_box_blk rfl 57 _ rfl #[.int .i64 (n : Int), .slice (some ⟨gt, 0, none⟩) m cc] rfl ?_
       intro w1 g1 hG hgr hge
       have hx0 : w1.cell? ⟨g1, 0, none⟩ = some (.int .i64 (n : Int)) := hG.cell 0
       have hx1 : w1.cell? ⟨g1, 1, none⟩ = some (.slice (some ⟨gt, 0, none⟩) m cc) := hG.cell 1
       have hb1 := below_none (Below.refl w.heap.size w) hgr (Nat.le_refl _))
    | (go_at_call 38; (with_reducible refine (cg.out _ (hWgt.out _ hb1)).mono ?_); rintro e w3 ⟨⟨A, cp, rfl, hr3⟩, hb3⟩
       have hbe3 := hb1.trans (hb3.mono hb1.size)))
  go_ret2
  exact ⟨⟨_, _, rfl, hr3⟩, hbe3⟩
end Br
end Go.Proofs.YthbkfhhnhiplkaaDoor
