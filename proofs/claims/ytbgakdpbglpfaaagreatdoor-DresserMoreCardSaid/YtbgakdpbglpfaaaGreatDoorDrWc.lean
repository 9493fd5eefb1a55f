/- packet's Totals, walked. -/
import Derived.Test.YtbgakdpbglpfaaaGreatDoorDrWb
namespace Go.Proofs.YtbgakdpbglpfaaaGreatDoor
open Go.RowKit
namespace Dr
set_option linter.unusedSimpArgs false
/-- what lies in memory while all numbers are asked: those found so far -/
structure TotQ (w0 w : World) (g8 : Nat) (v : Value) (acc : List Nat) : Prop where
  cell : Blk w g8 40 #[v]
  own : OwnI w w0.heap.size v (natI acc)
  below : Below w0.heap.size w0 w
  ge : w0.heap.size ≤ g8
  ne : v.ownBlock ≠ some g8
section
variable {w0 w : World}
set_option maxRecDepth 100000 in
set_option maxHeartbeats 2000000 in
theorem tot1_ok (g8 : Nat) (v : Value) (acc : List Nat) (x : Nat) (hl : acc.length ≤ 2000) (h : TotQ w0 w g8 v acc) :
    Calls Tryz.prog 103 #[.int .i64 (x : Int), .pointer (some ⟨g8, 0, none⟩)] w fun e w' => e = .returned (.bool true) ∧ ∃ v', TotQ w0 w' g8 v' (acc ++ [x]) ∧ w.heap.size ≤ w'.heap.size ∧ ∀ gr, gr < w.heap.size → gr ≠ g8 → v.ownBlock ≠ some gr → w'.heap[gr]? = w.heap[gr]? ∧ v'.ownBlock ≠ some gr := by
  obtain ⟨hc, ho, hb, hg, hne⟩ := h
  have c8 := hc.at_ 0 rfl
  have HL := Lib.hid hl
  go_enter Tryz.func103, Tryz.ntmps103
  go_wp2_with (first
    | (with_reducible show wpList _ _ _ (⟨_, .buildSlice 40 _ _, _, _, _, _⟩ :: _) _ _
       refine wpList_lit1 rfl 40 3 _ (.int .i64 (x : Int)) rfl rfl (lit_int x) ?_
       intro w6 g6 hG6 hgr6 hge6
       have ho6 := ho.none_ hgr6
       have hc6 := hc.none_ hgr6
       have hb6 := below_none hb hgr6 hb.size)
    | (at_builtin
       refine wpList_push rfl _ _ rfl rfl ho6 g6 1 (x : Int) rfl hG6 (by rw [natI_length]; have := HL.out; omega) hb6.size ?_
       intro g7 cap7 w7 hO7 hgr7 hat7 hlt7
       replace hgr7 : w6.grownBy w7 v.ownBlock := hgr7
       replace hat7 : v.ownBlock = some g7 ∨ g7 = w6.heap.size := hat7
       have ho7 : OwnI w7 w0.heap.size (.slice (some ⟨g7, 0, none⟩) ((natI acc).length + 1) cap7) (natI (acc ++ [x])) := by
         rw [natI_append]; exact hO7
       have hc7 : Blk w7 g8 40 #[v] := (hgr7.block g8 hc6.lt (fun e => hne e.symm)).trans hc6
       have f7 := hc7.frozen 0
       have c7 := hc7.at_ 0 rfl))
  go_ret
  have hs6 : w.heap.size ≤ w6.heap.size := hgr6.size
  have hs7 : w6.heap.size ≤ w7.heap.size := hgr7.size
  have hl8 := hc.lt
  have n78 : g7 ≠ g8 := by
    intro e
    rcases hat7 with h | h
    · exact hne (by rw [h, e])
    · omega
  refine ⟨rfl, _, ⟨hc7.set_ 0 _, ho7.set_ (fun e => n78 (by simpa [Value.ownBlock] using e)) _, ?_, hg, fun e => n78 (by simpa [Value.ownBlock] using e)⟩, ?_, ?_⟩
  · exact (hb6.grown hgr7 hb6.size (fun _ e => ho6.ge e)).setCell (p := ⟨g8, 0, none⟩) hg _
  · simpa using Nat.le_trans hs6 hs7
  · intro gr h1 h2 h3
    refine ⟨?_, fun e => ?_⟩
    · rw [Below.heap_setCell w7 ⟨g8, 0, none⟩ _ gr h2, hgr7.block gr (by omega) (fun e => h3 e.symm), hgr6.block gr h1 (by simp)]
    · have e : g7 = gr := by simpa [Value.ownBlock] using e
      rcases hat7 with h | h
      · exact h3 (by rw [h, e])
      · omega
theorem TotQ.callee {w' : World} {g8 : Nat} {v : Value} {acc : List Nat} (h : TotQ w0 w g8 v acc) (hb : Below w.heap.size w w') : TotQ w0 w' g8 v acc :=
  ⟨h.cell.callee hb, h.own.callee hb, h.below.trans (hb.mono h.below.size), h.ge, h.ne⟩
/-- those of the first numbers that are made up -/
def hitL (row : List Nat) (k : Nat) : List Nat := (List.range k).filter fun x => decide (0 < row.getD x 0)
theorem hitL_yes {row : List Nat} {k : Nat} (h : 0 < row.getD k 0) : hitL row (k + 1) = hitL row k ++ [k] := by
  unfold hitL
  rw [List.range_succ, List.filter_append, List.filter_cons_of_pos (by simpa using h), List.filter_nil]
theorem hitL_no {row : List Nat} {k : Nat} (h : ¬ 0 < row.getD k 0) : hitL row (k + 1) = hitL row k := by
  unfold hitL
  rw [List.range_succ, List.filter_append, List.filter_cons_of_neg (by simpa using h), List.filter_nil, List.append_nil]
theorem hitL_len (row : List Nat) (k : Nat) : (hitL row k).length ≤ k := by
  unfold hitL
  exact Nat.le_trans (List.length_filter_le _ _) (by rw [List.length_range]; exact Nat.le_refl _)
def totC (g8 : Nat) : Value := .func (.func 103) #[] #[.pointer (some ⟨g8, 0, none⟩)]
set_option maxRecDepth 100000 in
set_option maxHeartbeats 4000000 in
theorem eachT_ok (A : Option Addr) (K c : Nat) (A2 : Option Addr) (c2 : Nat) (ss ms : List Nat) (hS : Pk.Stk ss ms) (B : Nat) (hB : B ≤ w0.heap.size) (hr : RInts w0 B A K (natI ss)) (hr2 : RInts w0 B A2 K (natI ms)) (g8 : Nat) (h : TotQ w0 w g8 (.slice none 0 0) []) :
    Calls Tryz.prog 102 #[.agg (Pk.stC A K c A2 K c2), totC g8] w fun e w' => e = .returned (.tuple #[]) ∧ ∃ v', TotQ w0 w' g8 v' (hitL (waysL (ss.zip ms)) 1001) := by
  have HW := Lib.hid (fun (w' : World) (hb : Below w0.heap.size w0 w') => ways_ok A K c A2 c2 ss ms hS w' B (Nat.le_trans hB hb.size) (hr.later hB hb) (hr2.later hB hb))
  obtain ⟨T, hT⟩ : ∃ T, Pk.stC A K c A2 K c2 = T := ⟨_, rfl⟩
  have hT2 : (Tryz.prog.info? 152).map (·.size) = some T.size := by rw [← hT]; exact Pk.info_store _ _ _ _ _ _
  rw [hT] at HW ⊢
  clear hT
  obtain ⟨row, hrow⟩ : ∃ q, waysL (ss.zip ms) = q := ⟨_, rfl⟩
  have hrl : row.length = 1001 := by rw [← hrow]; exact waysL_len _
  rw [hrow] at HW ⊢
  clear hrow
  have HRL := Lib.hid hrl
  have H := Lib.hid h
  unfold totC
  go_enter Tryz.func102, Tryz.ntmps102
  go_wp2_with (first
    | (with_reducible show wpList _ _ _ (⟨_, .box 152 _, _, _, _, _⟩ :: _) _ _
       refine wpList_box_blk rfl 152 _ rfl T rfl ?_
       intro w1 g1 hG1 hgr1 hge1)
    | (with_reducible show wpList _ _ _ (⟨_, .load 152 _, _, _, _, _⟩ :: _) _ _
       refine wpList_load_blk rfl 152 _ rfl g1 rfl 152 T _ hG1 Tryz.underlying152 rfl hT2 ?_)
    | (go_at_call 140; (with_reducible refine (HW.out _ (below_none H.out.below hgr1 H.out.below.size)).mono ?_); rintro e w2 ⟨v2, rfl, hN2, hb2⟩
       obtain ⟨A4, cc2, rfl, _, _, _, hA4⟩ := ownN_form hN2.1
       obtain ⟨g2, rfl⟩ := hA4 (by rw [HRL.out]; omega)
       have hO2 := hN2.1
       have hge2 := hN2.2 g2 rfl
       have H2 := (H.out.callee (below_grown hgr1)).callee hb2
       rw [HRL.out] at hO2 ⊢))
  have hg82 : g2 ≠ g8 := by have := H.out.cell.lt; have := hgr1.size; omega
  clear hT2 HW H h hG1 hgr1 hge1 hb2 hN2 hA4
  go_loopw [9] (fun v wr => ∃ (k : Nat) (vv : Value), k ≤ 1001 ∧ v = .int .i64 k ∧ TotQ w0 wr g8 vv (hitL row k) ∧ OwnN wr (.slice (some ⟨g2, 0, none⟩) 1001 cc2) row ∧ vv.ownBlock ≠ some g2) (fun v _ => 1001 - (intOf v).toNat)
  case atStart => exact ⟨0, _, by omega, rfl, H2, hO2, by simp [Value.ownBlock]⟩
  case round =>
    clear H2 hO2 hge2
    obtain ⟨k, vv, hk, rfl, hQ, hO, hv2⟩ := hrel
    by_cases hlt : k < 1001
    · have hlti : (k : Int) < 1001 := by omega
      have hk0 : (0 : Int) ≤ k := by omega
      obtain ⟨x, hx⟩ : ∃ q, row.getD k 0 = q := ⟨_, rfl⟩
      have hcx := (ownN_cell hO HRL.out.symm (i := k) (x := x) (by rw [← hx, List.getD_eq_getElem?_getD, List.getElem?_eq_getElem (by omega)]; rfl)).1
      by_cases hx0 : 0 < x
      · have hxi : (0 : Int) < x := by omega
        have HC := Lib.hid (tot1_ok g8 vv (hitL row k) k (by have := hitL_len row k; omega) hQ)
        have HY := Lib.hid (hitL_yes (row := row) (k := k) (by rw [hx]; exact hx0))
        replace hx := Lib.hid hx
        go_wp2_with (first
          | (go_at_call 103; (with_reducible refine HC.out.mono ?_); rintro e w3 ⟨rfl, v3, hQ3, hs3, hf3⟩))
        have hf2 := hf3 g2 (ownI_lt hO rfl) hg82 hv2
        go_roundw
        case rel => exact ⟨k + 1, v3, by omega, by go_num, by rw [HY.out]; exact hQ3, OwnI.same hO fun g hg => by
          obtain rfl : g2 = g := by simpa [blkOf] using hg
          exact hf2.1, hf2.2⟩
        case measure => simp only [intOf]; omega
      · obtain rfl : x = 0 := by omega
        have HY := Lib.hid (hitL_no (row := row) (k := k) (by rw [hx]; omega))
        replace hx := Lib.hid hx
        go_wp2_with (fail)
        go_roundw
        case rel => exact ⟨k + 1, vv, by omega, by go_num, by rw [HY.out]; exact hQ, hO, hv2⟩
        case measure => simp only [intOf]; omega
    · obtain rfl : k = 1001 := by omega
      go_wp2_with (fail)
      exact bodyPost_end (v := .tuple #[]) (by kernel_rfl) rfl ⟨rfl, _, hQ⟩
theorem hit_could (ss ms : List Nat) : hitL (waysL (ss.zip ms)) 1001 = couldL ss ms := by
  unfold hitL couldL
  apply List.filter_congr
  intro x hx
  have h := can_ways _ (ss.zip ms) rfl x (List.mem_range.1 hx)
  by_cases h0 : 0 < (waysL (ss.zip ms)).getD x 0
  · rw [decide_eq_true h0, h.1 h0]
  · rw [decide_eq_false h0]
    cases hc : canL (ss.zip ms).reverse x with
    | false => rfl
    | true => exact absurd (h.2 hc) h0
set_option maxRecDepth 100000 in
set_option maxHeartbeats 4000000 in
theorem totals_any (A : Option Addr) (K c b2 o2 c2 : Nat) (ss ms : List Nat) (hS : Pk.Stk ss ms) (B : Nat) (hB : B ≤ w.heap.size) (hr : RInts w B A K (natI ss)) (hr2 : RInts w B (some ⟨b2, o2, none⟩) K (natI ms)) :
    Calls Tryz.prog 78 #[.slice A K c, .slice (some ⟨b2, o2, none⟩) K c2] w fun e w' => ∃ v, e = .returned (.tuple #[v, .int .i64 0]) ∧ NewN w w' v (couldL ss ms) ∧ Below w.heap.size w w' := by
  have HS := Lib.hid (Pk.stocked_ok A K c b2 o2 c2 ss ms hS w B hB hr hr2)
  have HE := Lib.hid (fun (w' : World) (g8 : Nat) (h : TotQ w w' g8 (.slice none 0 0) []) => eachT_ok A K c (some ⟨b2, o2, none⟩) c2 ss ms hS B hB hr hr2 g8 h)
  rw [hit_could] at HE
  obtain ⟨T, hT⟩ : ∃ T, Pk.stC A K c (some ⟨b2, o2, none⟩) K c2 = T := ⟨_, rfl⟩
  have hT1 : T.all (·.oneCell') = true := by rw [← hT]; exact Pk.stC_one _ _ _ _ _ _
  have hT2 : (Tryz.prog.info? 152).map (·.size) = some T.size := by rw [← hT]; exact Pk.info_store _ _ _ _ _ _
  have hT3 : (Pk.stC none 0 0 none 0 0).size = T.size := by rw [← hT]; rfl
  rw [hT] at HS HE
  clear hT
  unfold totC at HE
  go_enter Tryz.func78, Tryz.ntmps78
  go_wp2_with (first
    | (go_at_call 101; (with_reducible refine HS.out.mono ?_); rintro e w1 ⟨rfl, hb1⟩)
    | (with_reducible show wpList _ _ _ (⟨_, .alloc 152, _, _, _, _⟩ :: _) _ _
       refine wpList_alloc_blk rfl 152 rfl _ Pk.zero_store ?_
       intro w2 g6 hG hgr2 hge2
       have hb2 := below_none hb1 hgr2 hb1.size)
    | (with_reducible show wpList _ _ _ (⟨_, .store 152 _ _, _, _, _, _⟩ :: _) _ _
       refine wpList_store_blk rfl 152 _ _ rfl g6 T rfl rfl 152 _ hG hT2 hT3 hT1 ?_
       intro w3 hG3 hgr3
       have hb3 := below_some hb2 hgr3 hb2.size (by have := hb1.size; omega))
    | (with_reducible show wpList _ _ _ (⟨_, .alloc 40, _, _, _, _⟩ :: _) _ _
       refine wpList_alloc_oneC rfl 40 (.slice none 0 0) rfl (fun _ => rfl) rfl ?_
       intro w4 g8 hG8 hgr4 hge4
       have hG4 := hG3.none_ hgr4
       have hb4 := below_none hb3 hgr4 hb3.size)
    | (with_reducible show wpList _ _ _ (⟨_, .load 152 _, _, _, _, _⟩ :: _) _ _
       refine wpList_load_blk rfl 152 _ rfl g6 rfl 152 T _ hG4 Tryz.underlying152 rfl hT2 ?_)
    | (go_at_call 102; (with_reducible refine (HE.out _ g8 ⟨hG8, OwnI.nil _ _, hb4, Nat.le_trans hb3.size hge4, by simp [Value.ownBlock]⟩).mono ?_); rintro e w5 ⟨rfl, v', hQ⟩
       have c8 := hQ.cell.at_ 0 rfl))
  go_ret2
  exact ⟨_, rfl, new_of_row hQ.own, hQ.below⟩
end
end Dr
end Go.Proofs.YtbgakdpbglpfaaaGreatDoor
