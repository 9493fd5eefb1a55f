/- packet's Least, walked. -/
import Derived.Test.YtbgakdpbglpfaaaGreatDoorDrWd
namespace Go.Proofs.YtbgakdpbglpfaaaGreatDoor
open Go.RowKit
namespace Dr
set_option linter.unusedSimpArgs false
/-- what lies in memory while the smallest one is looked for -/
structure LeaQ (w0 w : World) (g5 g10 g9 n : Nat) (l e : Int) : Prop where
  b5 : Blk w g5 3 #[.int .i64 (n : Int)]
  b10 : Blk w g10 3 #[.int .i64 l]
  b9 : Blk w g9 28 #[.int .i64 e]
  below : Below w0.heap.size w0 w
  ge10 : w0.heap.size ≤ g10
  ge9 : w0.heap.size ≤ g9
  ne : g5 ≠ g10 ∧ g5 ≠ g9 ∧ g10 ≠ g9
def leaC (g5 g10 g9 : Nat) : Value := .func (.func 105) #[] #[.pointer (some ⟨g5, 0, none⟩), .pointer (some ⟨g10, 0, none⟩), .pointer (some ⟨g9, 0, none⟩)]
section
variable {w0 w : World}
theorem LeaQ.callee {w' : World} {g5 g10 g9 n : Nat} {l e : Int} (h : LeaQ w0 w g5 g10 g9 n l e) (hb : Below w.heap.size w w') : LeaQ w0 w' g5 g10 g9 n l e :=
  ⟨h.b5.callee hb, h.b10.callee hb, h.b9.callee hb, h.below.trans (hb.mono h.below.size), h.ge10, h.ge9, h.ne⟩
set_option maxRecDepth 100000 in
theorem lea1_no (g5 g10 g9 n x : Nat) (h : LeaQ w0 w g5 g10 g9 n 0 12) (hx : ¬ n ≤ x) :
    Calls Tryz.prog 105 #[.int .i64 (x : Int), .pointer (some ⟨g5, 0, none⟩), .pointer (some ⟨g10, 0, none⟩), .pointer (some ⟨g9, 0, none⟩)] w fun e w' => e = .returned (.bool true) ∧ w' = w := by
  have c5 : w.cell? ⟨g5, 0, none⟩ = some (.int .i64 (n : Int)) := h.b5.at_ 0 rfl
  have c9 : w.cell? ⟨g9, 0, none⟩ = some (.int .i64 12) := h.b9.at_ 0 rfl
  have hxi : ¬ (n : Int) ≤ x := by omega
  go_enter Tryz.func105, Tryz.ntmps105
  go_wp2_with (fail)
  go_ret
  exact ⟨rfl, rfl⟩
set_option maxRecDepth 100000 in
theorem lea1_yes (g5 g10 g9 n x : Nat) (h : LeaQ w0 w g5 g10 g9 n 0 12) (hx : n ≤ x) :
    Calls Tryz.prog 105 #[.int .i64 (x : Int), .pointer (some ⟨g5, 0, none⟩), .pointer (some ⟨g10, 0, none⟩), .pointer (some ⟨g9, 0, none⟩)] w fun e w' => e = .returned (.bool false) ∧ LeaQ w0 w' g5 g10 g9 n x 0 ∧ w'.heap.size = w.heap.size ∧ ∀ j, j ≠ g10 → j ≠ g9 → w'.heap[j]? = w.heap[j]? := by
  obtain ⟨b5, b10, b9, hb, h10, h9, n1, n2, n3⟩ := h
  have c5 : w.cell? ⟨g5, 0, none⟩ = some (.int .i64 (n : Int)) := b5.at_ 0 rfl
  have f10 := b10.frozen 0
  have c10 : w.cell? ⟨g10, 0, none⟩ = some (.int .i64 0) := b10.at_ 0 rfl
  have hxi : (n : Int) ≤ x := by omega
  have B5 := b5.far (p := ⟨g10, 0, none⟩) n1 (.int .i64 (x : Int))
  have B10 := b10.set_ 0 (.int .i64 (x : Int))
  have B9 := b9.far (p := ⟨g10, 0, none⟩) n3.symm (.int .i64 (x : Int))
  have hb1 := hb.setCell (p := ⟨g10, 0, none⟩) h10 (.int .i64 (x : Int))
  obtain ⟨w1, hw1⟩ : ∃ q, w.setCell ⟨g10, 0, none⟩ (.int .i64 (x : Int)) = q := ⟨_, rfl⟩
  have hst : ∀ j, j ≠ g10 → w1.heap[j]? = w.heap[j]? := fun j hj => by rw [← hw1]; exact Below.heap_setCell w ⟨g10, 0, none⟩ _ j hj
  have hsz : w1.heap.size = w.heap.size := by rw [← hw1]; simp
  rw [hw1] at B5 B10 B9 hb1
  have f9 := B9.frozen 0
  have c9 : w1.cell? ⟨g9, 0, none⟩ = some (.int .i64 12) := B9.at_ 0 rfl
  have HST := Lib.hid hst
  have C9 : (w1.setCell ⟨g9, 0, none⟩ (.int .i64 0)).cell? ⟨g9, 0, none⟩ = some (.int .i64 0) := (B9.set_ 0 (.int .i64 0)).at_ 0 rfl
  clear hst
  go_enter Tryz.func105, Tryz.ntmps105
  go_wp2_with (with_reducible show wpList _ _ _ (⟨_, .store 3 _ _, _, _, _, _⟩ :: _) _ _
               refine wpList_setcellC rfl 3 _ _ rfl g10 0 (.int .i64 (x : Int)) rfl rfl (by go_simp) ?_
               rw [hw1])
  go_ret
  refine ⟨rfl, ⟨B5.far (p := ⟨g9, 0, none⟩) n2 _, B10.far (p := ⟨g9, 0, none⟩) n3 _, B9.set_ 0 _, hb1.setCell (p := ⟨g9, 0, none⟩) h9 _, h10, h9, n1, n2, n3⟩, by simpa using hsz, fun j h1 h2 => ?_⟩
  rw [Below.heap_setCell w1 ⟨g9, 0, none⟩ _ j h2]
  exact HST.out j h1
/-- the smallest number that is made up -/
def nextL (row : List Nat) (n : Nat) : Option Nat := (List.range 1001).find? fun x => decide (n ≤ x) && decide (0 < row.getD x 0)
def nextE : Option Nat → Int × Int
  | none => (0, 12)
  | some x => (x, 0)
set_option maxRecDepth 100000 in
set_option maxHeartbeats 4000000 in
theorem eachL_ok (A : Option Addr) (K c : Nat) (A2 : Option Addr) (c2 : Nat) (ss ms : List Nat) (hS : Pk.Stk ss ms) (B : Nat) (hB : B ≤ w0.heap.size) (hr : RInts w0 B A K (natI ss)) (hr2 : RInts w0 B A2 K (natI ms)) (g5 g10 g9 n : Nat) (h : LeaQ w0 w g5 g10 g9 n 0 12) :
    Calls Tryz.prog 102 #[.agg (Pk.stC A K c A2 K c2), leaC g5 g10 g9] w fun e w' => e = .returned (.tuple #[]) ∧ LeaQ w0 w' g5 g10 g9 n (nextE (nextL (waysL (ss.zip ms)) n)).1 (nextE (nextL (waysL (ss.zip ms)) n)).2 := by
  have HW := Lib.hid (fun (w' : World) (hb : Below w0.heap.size w0 w') => ways_ok A K c A2 c2 ss ms hS w' B (Nat.le_trans hB hb.size) (hr.later hB hb) (hr2.later hB hb))
  obtain ⟨T, hT⟩ : ∃ T, Pk.stC A K c A2 K c2 = T := ⟨_, rfl⟩
  have hT2 : (Tryz.prog.info? 152).map (·.size) = some T.size := by rw [← hT]; exact Pk.info_store _ _ _ _ _ _
  rw [hT] at HW ⊢
  clear hT
  obtain ⟨row, hrow⟩ : ∃ q, waysL (ss.zip ms) = q := ⟨_, rfl⟩
  have hrl : row.length = 1001 := by rw [← hrow]; exact waysL_len _
  rw [hrow] at HW ⊢
  clear hrow
  have HRL := Lib.hid hrl
  have H := Lib.hid h
  unfold leaC
  obtain ⟨Z, hZ⟩ : ∃ q, nextE (nextL row n) = q := ⟨_, rfl⟩
  rw [hZ]
  replace hZ := Lib.hid hZ
  go_enter Tryz.func102, Tryz.ntmps102
  go_wp2_with (first
    | (with_reducible show wpList _ _ _ (⟨_, .box 152 _, _, _, _, _⟩ :: _) _ _
       refine wpList_box_blk rfl 152 _ rfl T rfl ?_
       intro w1 g1 hG1 hgr1 hge1)
    | (with_reducible show wpList _ _ _ (⟨_, .load 152 _, _, _, _, _⟩ :: _) _ _
       refine wpList_load_blk rfl 152 _ rfl g1 rfl 152 T _ hG1 Tryz.underlying152 rfl hT2 ?_)
    | (go_at_call 140; (with_reducible refine (HW.out _ (below_none H.out.below hgr1 H.out.below.size)).mono ?_); rintro e w2 ⟨v2, rfl, hN2, hb2⟩
       obtain ⟨A4, cc2, rfl, _, _, _, hA4⟩ := ownN_form hN2.1
       obtain ⟨g2, rfl⟩ := hA4 (by rw [HRL.out]; omega)
       have hO2 := hN2.1
       have hge2 := hN2.2 g2 rfl
       have H2 := (H.out.callee (below_grown hgr1)).callee hb2
       rw [HRL.out] at hO2 ⊢))
  have hg2 : g2 ≠ g10 ∧ g2 ≠ g9 := by have := H.out.b10.lt; have := H.out.b9.lt; have := hgr1.size; exact ⟨by omega, by omega⟩
  clear hT2 HW H h hG1 hgr1 hge1 hb2 hN2 hA4
  go_loopw [9] (fun v wr => ∃ (k : Nat), k ≤ 1001 ∧ v = .int .i64 k ∧ LeaQ w0 wr g5 g10 g9 n 0 12 ∧ OwnN wr (.slice (some ⟨g2, 0, none⟩) 1001 cc2) row ∧ Hid (∀ y : Nat, y < k → (decide (n ≤ y) && decide (0 < row.getD y 0)) = false)) (fun v _ => 1001 - (intOf v).toNat)
  case atStart => exact ⟨0, by omega, rfl, H2, hO2, fun y hy => absurd hy (Nat.not_lt_zero y)⟩
  case round =>
    clear H2 hO2 hge2
    obtain ⟨k, hk, rfl, hQ, hO, hN⟩ := hrel
    by_cases hlt : k < 1001
    · have hlti : (k : Int) < 1001 := by omega
      have hk0 : (0 : Int) ≤ k := by omega
      obtain ⟨x, hx⟩ : ∃ q, row.getD k 0 = q := ⟨_, rfl⟩
      have hcx := (ownN_cell hO HRL.out.symm (i := k) (x := x) (by rw [← hx, List.getD_eq_getElem?_getD, List.getElem?_eq_getElem (by omega)]; rfl)).1
      have hstep : (decide (n ≤ k) && decide (0 < x)) = false → Hid (∀ y : Nat, y < k + 1 → (decide (n ≤ y) && decide (0 < row.getD y 0)) = false) := fun h y hy => by
        by_cases e : y = k
        · subst e
          rw [hx]
          exact h
        · exact hN.out y (by omega)
      replace hx := Lib.hid hx
      by_cases hx0 : 0 < x
      · have hxi : (0 : Int) < x := by omega
        by_cases hnk : n ≤ k
        · have HC := Lib.hid (lea1_yes g5 g10 g9 n k hQ hnk)
          have HZ2 : Hid (nextL row n = some k) := by
            unfold nextL
            rw [Hid, List.find?_range_eq_some]
            refine ⟨?_, List.mem_range.2 hlt, fun j hj => ?_⟩
            · rw [hx.out, decide_eq_true hnk, decide_eq_true hx0]; rfl
            · rw [hN.out j hj]; rfl
          clear hstep
          go_wp2_with (first
            | (go_at_call 105; (with_reducible refine HC.out.mono ?_); rintro e w3 ⟨rfl, hQ3, hs3, hf3⟩))
          refine bodyPost_ret (v := .tuple #[]) (by kernel_rfl) rfl ⟨rfl, ?_⟩
          rw [← hZ.out, HZ2.out]
          exact hQ3
        · have HC := Lib.hid (lea1_no g5 g10 g9 n k hQ hnk)
          have hN1 := hstep (by rw [decide_eq_false hnk]; rfl)
          clear hstep
          go_wp2_with (first
            | (go_at_call 105; (with_reducible refine HC.out.mono ?_); rintro e w3 ⟨rfl, hw3⟩; replace hw3 := hw3.symm; subst hw3))
          go_roundw
          case rel => exact ⟨k + 1, by omega, by go_num, hQ, hO, hN1⟩
          case measure => simp only [intOf]; omega
      · obtain rfl : x = 0 := by omega
        have hN1 := hstep (by rw [Bool.and_comm]; rfl)
        clear hstep
        go_wp2_with (fail)
        go_roundw
        case rel => exact ⟨k + 1, by omega, by go_num, hQ, hO, hN1⟩
        case measure => simp only [intOf]; omega
    · obtain rfl : k = 1001 := by omega
      have HZ2 : Hid (nextL row n = none) := by
        unfold nextL
        rw [Hid, List.find?_eq_none]
        intro y hy
        rw [hN.out y (List.mem_range.1 hy)]
        exact Bool.false_ne_true
      go_wp2_with (fail)
      refine bodyPost_end (v := .tuple #[]) (by kernel_rfl) rfl ⟨rfl, ?_⟩
      rw [← hZ.out, HZ2.out]
      exact hQ
theorem next_could (ss ms : List Nat) (n : Nat) : nextL (waysL (ss.zip ms)) n = nextP ss ms n := by
  unfold nextL nextP
  have : ∀ l : List Nat, (∀ x ∈ l, x < 1001) → l.find? (fun x => decide (n ≤ x) && decide (0 < (waysL (ss.zip ms)).getD x 0)) = l.find? fun x => decide (n ≤ x) && canL (ss.zip ms).reverse x := by
    intro l
    induction l with
    | nil => intro _; rfl
    | cons x l ih =>
      intro hl
      have h := can_ways _ (ss.zip ms) rfl x (hl x (List.mem_cons_self))
      have e : decide (0 < (waysL (ss.zip ms)).getD x 0) = canL (ss.zip ms).reverse x := by
        by_cases h0 : 0 < (waysL (ss.zip ms)).getD x 0
        · rw [decide_eq_true h0, h.1 h0]
        · rw [decide_eq_false h0]
          cases hc : canL (ss.zip ms).reverse x with
          | false => rfl
          | true => exact absurd (h.2 hc) h0
      rw [List.find?_cons, List.find?_cons, e, ih fun y hy => hl y (List.mem_cons_of_mem _ hy)]
  exact this _ fun x hx => List.mem_range.1 hx
set_option maxRecDepth 100000 in
set_option maxHeartbeats 4000000 in
theorem least_any (A : Option Addr) (K c b2 o2 c2 : Nat) (ss ms : List Nat) (hS : Pk.Stk ss ms) (n : Nat) (hn : n ≤ 1000) (B : Nat) (hB : B ≤ w.heap.size) (hr : RInts w B A K (natI ss)) (hr2 : RInts w B (some ⟨b2, o2, none⟩) K (natI ms)) :
    Calls Tryz.prog 79 #[.slice A K c, .slice (some ⟨b2, o2, none⟩) K c2, .int .i64 (n : Int)] w fun e w' => e = .returned (.tuple #[.int .i64 (nextE (nextP ss ms n)).1, .int .i64 (nextE (nextP ss ms n)).2]) ∧ Below w.heap.size w w' := by
  have HS := Lib.hid (fun (w' : World) (hb : Below w.heap.size w w') => Pk.ordered_ok A K c b2 o2 c2 ss ms hS n hn w' B (Nat.le_trans hB hb.size) (hr.later hB hb) (hr2.later hB hb))
  have HE := Lib.hid (fun (w' : World) (g5 g10 g9 : Nat) (h : LeaQ w w' g5 g10 g9 n 0 12) => eachL_ok A K c (some ⟨b2, o2, none⟩) c2 ss ms hS B hB hr hr2 g5 g10 g9 n h)
  rw [next_could] at HE
  obtain ⟨⟨l, E⟩, hZ⟩ : ∃ q, nextE (nextP ss ms n) = q := ⟨_, rfl⟩
  rw [hZ] at HE ⊢
  obtain ⟨T, hT⟩ : ∃ T, Pk.stC A K c (some ⟨b2, o2, none⟩) K c2 = T := ⟨_, rfl⟩
  have hT1 : T.all (·.oneCell') = true := by rw [← hT]; exact Pk.stC_one _ _ _ _ _ _
  have hT2 : (Tryz.prog.info? 152).map (·.size) = some T.size := by rw [← hT]; exact Pk.info_store _ _ _ _ _ _
  have hT3 : (Pk.stC none 0 0 none 0 0).size = T.size := by rw [← hT]; rfl
  rw [hT] at HS HE
  clear hT hZ
  unfold leaC at HE
  go_enter Tryz.func79, Tryz.ntmps79
  go_wp2_with (first
    | (go_at_call 104; (with_reducible refine (HS.out _ ((Below.refl w.heap.size w).alloc (Nat.le_refl _) _)).mono ?_); rintro e w1 ⟨rfl, hb1⟩
       have hA1 := (Blk.new w 3 #[.int .i64 (n : Int)]).callee hb1
       have hB1 : Below w.heap.size w w1 := ((Below.refl w.heap.size w).alloc (Nat.le_refl _) _).trans (hb1.mono (((Below.refl w.heap.size w).alloc (Nat.le_refl _) (.cells #[.int .i64 (n : Int)] 3)).size)))
    | (with_reducible show wpList _ _ _ (⟨_, .alloc 152, _, _, _, _⟩ :: _) _ _
       refine wpList_alloc_blk rfl 152 rfl _ Pk.zero_store ?_
       intro w2 g8 hG2 hgr2 hge2
       have hB2 := below_none hB1 hgr2 hB1.size
       have hA2 := hA1.none_ hgr2)
    | (with_reducible show wpList _ _ _ (⟨_, .alloc 28, _, _, _, _⟩ :: _) _ _
       refine wpList_alloc_oneC rfl 28 (.int .i64 0) rfl (fun _ => rfl) rfl ?_
       intro w3 g9 hE3 hgr3 hge3
       have hB3 := below_none hB2 hgr3 hB2.size
       have hA3 := hA2.none_ hgr3
       have hG3 := hG2.none_ hgr3
       have n98 : g9 ≠ g8 := by have := hG2.lt; omega
       have n95 : g9 ≠ w.heap.size := by have := hA2.lt; omega
       have n85 : g8 ≠ w.heap.size := by have := hA1.lt; omega
       have hge9 : w.heap.size ≤ g9 := Nat.le_trans hB2.size hge3
       have hge8 : w.heap.size ≤ g8 := Nat.le_trans hB1.size hge2)
    | (with_reducible show wpList _ _ _ (⟨_, .store 152 _ _, _, _, _, _⟩ :: _) _ _
       refine wpList_store_blk rfl 152 _ _ rfl g8 T rfl rfl 152 _ hG3 hT2 hT3 hT1 ?_
       intro w4 hG4 hgr4
       have hB4 := below_some hB3 hgr4 hB3.size hge8
       have hA4 := hA3.some_ hgr4 n85.symm
       have hE4 := hE3.some_ hgr4 n98
       have f4 := hE4.frozen 0
       have c4 : w4.cell? ⟨g9, 0, none⟩ = some (.int .i64 0) := hE4.at_ 0 rfl)
    | (with_reducible show wpList _ _ _ (⟨_, .store 28 _ (.tmp 17), _, _, _, _⟩ :: _) _ _
       refine wpList_setcellC rfl 28 _ _ rfl g9 0 (.int .i64 0) rfl rfl (by go_simp) ?_
       obtain ⟨w5, hw5⟩ : ∃ q, w4.setCell ⟨g9, 0, none⟩ (.int .i64 0) = q := ⟨_, rfl⟩
       have hA5 := hA4.far (p := ⟨g9, 0, none⟩) n95.symm (.int .i64 0)
       have hG5 := hG4.far (p := ⟨g9, 0, none⟩) n98.symm (.int .i64 0)
       have hE5 := hE4.set_ 0 (.int .i64 0)
       have hB5 := hB4.setCell (p := ⟨g9, 0, none⟩) hge9 (.int .i64 0)
       rw [hw5] at hA5 hG5 hE5 hB5 ⊢
       have c5 : w5.cell? ⟨g9, 0, none⟩ = some (.int .i64 0) := hE5.at_ 0 rfl)
    | (with_reducible show wpList _ _ _ (⟨_, .alloc 3, _, _, _, _⟩ :: _) _ _
       refine wpList_alloc_oneC rfl 3 (.int .i64 0) rfl (fun _ => rfl) rfl ?_
       intro w6 g10 hL6 hgr6 hge6
       have hB6 := below_none hB5 hgr6 hB5.size
       have hA6 := hA5.none_ hgr6
       have hG6 := hG5.none_ hgr6
       have hE6 := hE5.none_ hgr6
       have n108 : g10 ≠ g8 := by have := hG5.lt; omega
       have n105 : g10 ≠ w.heap.size := by have := hA5.lt; omega
       have n109 : g10 ≠ g9 := by have := hE5.lt; omega
       have hge10 : w.heap.size ≤ g10 := Nat.le_trans hB5.size hge6
       have f6 := hL6.frozen 0
       have c6 : w6.cell? ⟨g10, 0, none⟩ = some (.int .i64 0) := hL6.at_ 0 rfl)
    | (with_reducible show wpList _ _ _ (⟨_, .store 3 _ _, _, _, _, _⟩ :: _) _ _
       refine wpList_setcellC rfl 3 _ _ rfl g10 0 (.int .i64 0) rfl rfl (by go_simp) ?_
       obtain ⟨w7, hw7⟩ : ∃ q, w6.setCell ⟨g10, 0, none⟩ (.int .i64 0) = q := ⟨_, rfl⟩
       have hA7 := hA6.far (p := ⟨g10, 0, none⟩) n105.symm (.int .i64 0)
       have hG7 := hG6.far (p := ⟨g10, 0, none⟩) n108.symm (.int .i64 0)
       have hE7 := hE6.far (p := ⟨g10, 0, none⟩) n109.symm (.int .i64 0)
       have hL7 := hL6.set_ 0 (.int .i64 0)
       have hB7 := hB6.setCell (p := ⟨g10, 0, none⟩) hge10 (.int .i64 0)
       rw [hw7] at hA7 hG7 hE7 hL7 hB7 ⊢
       have f7 := hE7.frozen 0
       have c7 : w7.cell? ⟨g9, 0, none⟩ = some (.int .i64 0) := hE7.at_ 0 rfl)
    | (with_reducible show wpList _ _ _ (⟨_, .store 28 _ _, _, _, _, _⟩ :: _) _ _
       refine wpList_setcellC rfl 28 _ _ rfl g9 0 (.int .i64 12) rfl rfl (by go_simp) ?_
       obtain ⟨w8, hw8⟩ : ∃ q, w7.setCell ⟨g9, 0, none⟩ (.int .i64 12) = q := ⟨_, rfl⟩
       have hA8 := hA7.far (p := ⟨g9, 0, none⟩) n95.symm (.int .i64 12)
       have hG8 := hG7.far (p := ⟨g9, 0, none⟩) n98.symm (.int .i64 12)
       have hL8 := hL7.far (p := ⟨g9, 0, none⟩) n109 (.int .i64 12)
       have hE8 := hE7.set_ 0 (.int .i64 12)
       have hB8 := hB7.setCell (p := ⟨g9, 0, none⟩) hge9 (.int .i64 12)
       rw [hw8] at hA8 hG8 hE8 hL8 hB8 ⊢
       have HQ8 : Hid (LeaQ w w8 w.heap.size g10 g9 n 0 12) := ⟨hA8, hL8, hE8, hB8, hge10, hge9, n105.symm, n95.symm, n109⟩)
    | (with_reducible show wpList _ _ _ (⟨_, .load 152 _, _, _, _, _⟩ :: _) _ _
       refine wpList_load_blk rfl 152 _ rfl g8 rfl 152 T _ hG8 Tryz.underlying152 rfl hT2 ?_)
    | (go_at_call 102; (with_reducible refine (HE.out _ _ g10 g9 HQ8.out).mono ?_); rintro e w9 ⟨rfl, hQ⟩
       have c10 : w9.cell? ⟨g10, 0, none⟩ = some (.int .i64 l) := hQ.b10.at_ 0 rfl
       have c9 : w9.cell? ⟨g9, 0, none⟩ = some (.int .i64 E) := hQ.b9.at_ 0 rfl))
  go_quiet (fail)
  go_wp2_with (fail)
  go_ret2
  exact ⟨rfl, hQ.below.os, hQ.below.tape, hQ.below.output, hQ.below.size, hQ.below.block⟩
end
end Dr
end Go.Proofs.YtbgakdpbglpfaaaGreatDoor
