/- The texts DuA to DuC, joined by joinlist.py: their statements say what each proves. -/
import Derived.Test.YtkbfmogjhjdjmaaDoorProg
import Derived.Test.YtkbfmogjhjdjmaaDoorKit
import Derived.Test.YtkbfmogjhjdjmaaDoorDuP
import Derived.BigQuiet
import Derived.Test.YtkbfmogjhjdjmaaDoorDet
-- the text DuA
namespace Go.Proofs.YtkbfmogjhjdjmaaDoor
open Go.RowKit
namespace Du
/-- a point as a value -/
abbrev ptV (p : Int × Int) : Value := .agg #[.int .i64 p.1, .int .i64 p.2]
theorem within_any (n a b : Int) (w : World) : Calls Tryd.prog 28 #[.int .i64 n, .int .i64 a, .int .i64 b] w fun e w' => e = .returned (.bool (decide (a ≤ n) && decide (n ≤ b))) ∧ w' = w := by
  cases h : decide (a ≤ n) with
  | true =>
    have h1 := of_decide_eq_true h
    go_enter Tryd.func28, Tryd.ntmps28
    go_wp2_with (fail)
    go_ret
    exact ⟨rfl, rfl⟩
  | false =>
    have h1 := of_decide_eq_false h
    go_enter Tryd.func28, Tryd.ntmps28
    go_wp2_with (fail)
    go_ret
    exact ⟨rfl, rfl⟩
theorem mul_small {a b : Int} (h1 : -1000 ≤ a) (h2 : a ≤ 1000) (k1 : -1000 ≤ b) (k2 : b ≤ 1000) : -1000000 ≤ a * b ∧ a * b ≤ 1000000 := by
  have h : (a * b).natAbs ≤ 1000 * 1000 := by
    rw [Int.natAbs_mul]
    exact Nat.mul_le_mul (by omega) (by omega)
  omega
def Sm (B : Int) (p : Int × Int) : Prop := -B ≤ p.1 ∧ p.1 ≤ B ∧ -B ≤ p.2 ∧ p.2 ≤ B
theorem zero_pt (w : World) : (zeroValue 35).run Tryd.prog w = .ok (.agg #[.int .i64 0, .int .i64 0]) w := Tryd.zeroValue35 w
theorem info_pt : (Tryd.prog.info? 35).map (·.size) = some 2 := by kernel_rfl
set_option maxHeartbeats 400000 in
theorem less_ok (p q : Int × Int) (hp : Sm 1000 p) (hq : Sm 1000 q) (w : World) : Calls Tryd.prog 29 #[ptV p, ptV q] w fun e w' => e = .returned (ptV (less p q)) ∧ Below w.heap.size w w' := by
  obtain ⟨a, b⟩ := p
  obtain ⟨c, d⟩ := q
  obtain ⟨h1, h2, h3, h4⟩ := hp
  obtain ⟨k1, k2, k3, k4⟩ := hq
  simp only [] at h1 h2 h3 h4 k1 k2 k3 k4
  unfold ptV less
  go_enter Tryd.func29, Tryd.ntmps29
  go_wp2_with (first
    | (with_reducible show wpList _ _ _ (⟨some 2, .box 35 _, _, _, _, _⟩ :: _) _ _
       refine wpList_box_blk rfl 35 _ rfl #[.int .i64 a, .int .i64 b] rfl ?_
       intro w1 g1 hG1 hgr1 hge1
       have hb1 := below_none (Below.refl w.heap.size w) hgr1 (Nat.le_refl _))
    | (with_reducible show wpList _ _ _ (⟨some 3, .box 35 _, _, _, _, _⟩ :: _) _ _
       refine wpList_box_blk rfl 35 _ rfl #[.int .i64 c, .int .i64 d] rfl ?_
       intro w2 g2 hG2 hgr2 hge2
       have hb2 := below_none hb1 hgr2 hb1.size
       have hG12 := hG1.none_ hgr2)
    | (with_reducible show wpList _ _ _ (⟨_, .alloc 35, _, _, _, _⟩ :: _) _ _
       refine wpList_alloc_blk rfl 35 rfl _ zero_pt ?_
       intro w3 g3 hG3 hgr3 hge3
       have hb3 := below_none hb2 hgr3 hb2.size
       have hG13 := hG12.none_ hgr3
       have hG23 := hG2.none_ hgr3
       have hge := Nat.le_trans hb2.size hge3
       have c0 : w3.cell? ⟨g1, 0, none⟩ = some (.int .i64 a) := hG13.cell 0
       have c1 : w3.cell? ⟨g1, 1, none⟩ = some (.int .i64 b) := hG13.cell 1
       have d0 : w3.cell? ⟨g2, 0, none⟩ = some (.int .i64 c) := hG23.cell 0
       have d1 : w3.cell? ⟨g2, 1, none⟩ = some (.int .i64 d) := hG23.cell 1)
    | (with_reducible show wpList _ _ _ (⟨_, .store 35 _ _, _, _, _, _⟩ :: _) _ _
       refine wpList_store_blk rfl 35 _ _ rfl g3 #[.int .i64 (a - c), .int .i64 (b - d)] rfl rfl 35 _ hG3 info_pt rfl (by simp [Value.oneCell']) ?_
       intro w4 hG4 hgr4
       have hb4 := below_some hb3 hgr4 hb3.size hge))
  exact bodyPost_ret (results_cell_row rfl _ _ g3 35 _ (0, 0) _ rfl hG4 Tryd.underlying35 rfl info_pt) rfl ⟨rfl, hb4⟩
set_option maxHeartbeats 400000 in
theorem times_ok (p q : Int × Int) (hp : Sm 1000 p) (hq : Sm 1000 q) (w : World) : Calls Tryd.prog 30 #[ptV p, ptV q] w fun e w' => e = .returned (.int .i64 (times p q)) ∧ Below w.heap.size w w' := by
  obtain ⟨a, b⟩ := p
  obtain ⟨c, d⟩ := q
  obtain ⟨h1, h2, h3, h4⟩ := hp
  obtain ⟨k1, k2, k3, k4⟩ := hq
  simp only [] at h1 h2 h3 h4 k1 k2 k3 k4
  unfold ptV times
  obtain ⟨m1, hm1⟩ : ∃ m, a * d = m := ⟨_, rfl⟩
  obtain ⟨m2, hm2⟩ : ∃ m, b * c = m := ⟨_, rfl⟩
  have b1 : -1000000 ≤ m1 ∧ m1 ≤ 1000000 := by rw [← hm1]; exact mul_small h1 h2 k3 k4
  have b2 : -1000000 ≤ m2 ∧ m2 ≤ 1000000 := by rw [← hm2]; exact mul_small h3 h4 k1 k2
  obtain ⟨b11, b12⟩ := b1
  obtain ⟨b21, b22⟩ := b2
  rw [hm1, hm2]
  go_enter Tryd.func30, Tryd.ntmps30
  go_wp2_with (first
    | (with_reducible show wpList _ _ _ (⟨some 2, .box 35 _, _, _, _, _⟩ :: _) _ _
       refine wpList_box_blk rfl 35 _ rfl #[.int .i64 a, .int .i64 b] rfl ?_
       intro w1 g1 hG1 hgr1 hge1
       have hb1 := below_none (Below.refl w.heap.size w) hgr1 (Nat.le_refl _))
    | (with_reducible show wpList _ _ _ (⟨some 3, .box 35 _, _, _, _, _⟩ :: _) _ _
       refine wpList_box_blk rfl 35 _ rfl #[.int .i64 c, .int .i64 d] rfl ?_
       intro w2 g2 hG2 hgr2 hge2
       have hb2 := below_none hb1 hgr2 hb1.size
       have hG12 := hG1.none_ hgr2
       have c0 : w2.cell? ⟨g1, 0, none⟩ = some (.int .i64 a) := hG12.cell 0
       have c1 : w2.cell? ⟨g1, 1, none⟩ = some (.int .i64 b) := hG12.cell 1
       have d0 : w2.cell? ⟨g2, 0, none⟩ = some (.int .i64 c) := hG2.cell 0
       have d1 : w2.cell? ⟨g2, 1, none⟩ = some (.int .i64 d) := hG2.cell 1))
  go_ret
  exact ⟨rfl, hb2⟩
end Du
end Go.Proofs.YtkbfmogjhjdjmaaDoor
-- the text DuB
namespace Go.Proofs.YtkbfmogjhjdjmaaDoor
open Go.RowKit
namespace Du
/-- a slice of points, from its block's first cell on -/
def PtS (w : World) (A : Option Addr) (ps : List Pt) : Prop := ps = [] ∨ ∃ g cs, A = some ⟨g, 0, none⟩ ∧ Blk w g 35 cs ∧ ∀ (i : Nat) (p : Pt), ps[i]? = some p → cs[i * 2]? = some (.int .i64 p.1) ∧ cs[i * 2 + 1]? = some (.int .i64 p.2)
theorem PtS.below {w w' : World} {A : Option Addr} {ps : List Pt} (h : PtS w A ps) (hb : Below w.heap.size w w') : PtS w' A ps := by
  rcases h with h | ⟨g, cs, e, hB, hc⟩
  · exact Or.inl h
  · exact Or.inr ⟨g, cs, e, hB.below hb hB.lt, hc⟩
theorem PtS.at_ {w : World} {A : Option Addr} {ps : List Pt} {i : Nat} {p : Pt} (h : PtS w A ps) (hi : ps[i]? = some p) : ∃ g, A = some ⟨g, 0, none⟩ ∧ w.cell? ⟨g, i * 2, none⟩ = some (.int .i64 p.1) ∧ w.cell? ⟨g, i * 2 + 1, none⟩ = some (.int .i64 p.2) := by
  rcases h with h | ⟨g, cs, e, hB, hc⟩
  · rw [h] at hi
    simp at hi
  · obtain ⟨q1, q2⟩ := hc i p hi
    exact ⟨g, e, by rw [hB.cell]; exact q1, by rw [hB.cell]; exact q2⟩
theorem at_ok (A : Option Addr) (n c j : Nat) (ps : List Pt) (p : Pt) (i : Int) (hn : n ≤ 100) (hi : -1 ≤ i ∧ i ≤ 1000) (hj : Int.tmod (i + n) n = j) (hjn : j < n) (hp : ps[j]? = some p) (w : World) (hP : PtS w A ps) :
    Calls Tryd.prog 15 #[.slice A n c, .int .i64 i] w fun e w' => e = .returned (ptV p) ∧ Below w.heap.size w w' := by
  obtain ⟨h1, h2⟩ := hi
  obtain ⟨a, b⟩ := p
  have hn0 : ((n : Int) == 0) = false := by simp; omega
  have hjI : (j : Int) < n := by omega
  have hB := Lib.hid (fun w' (hb : Below w.heap.size w w') => (hP.below hb).at_ hp)
  obtain ⟨g, rfl, _, _⟩ := hP.at_ hp
  unfold ptV
  clear hP
  go_enter Tryd.func15, Tryd.ntmps15
  go_wp2_with (first
    | (with_reducible show wpList _ _ _ (⟨_, .alloc 35, _, _, _, _⟩ :: _) _ _
       refine wpList_alloc_blk rfl 35 rfl _ zero_pt ?_
       intro w3 g3 hG3 hgr3 hge3
       have hb3 := below_none (Below.refl w.heap.size w) hgr3 (Nat.le_refl _)
       obtain ⟨g', hg', c0, c1⟩ := hB.out w3 hb3
       obtain rfl : g = g' := by simpa using hg')
    | (with_reducible show wpList _ _ _ (⟨_, .store 35 _ _, _, _, _, _⟩ :: _) _ _
       refine wpList_store_blk rfl 35 _ _ rfl g3 #[.int .i64 a, .int .i64 b] rfl rfl 35 _ hG3 info_pt rfl (by simp [Value.oneCell']) ?_
       intro w4 hG4 hgr4
       have hb4 := below_some hb3 hgr4 hb3.size hge3))
  exact bodyPost_ret (results_cell_row rfl _ _ g3 35 _ (0, 0) _ rfl hG4 Tryd.underlying35 rfl info_pt) rfl ⟨rfl, hb4⟩
theorem zero_side (w : World) : (zeroValue 52).run Tryd.prog w = .ok (.agg #[.int .i64 0, .int .i64 0, .int .i64 0, .int .i64 0]) w := Tryd.zeroValue52 w
theorem info_side : (Tryd.prog.info? 52).map (·.size) = some 4 := by kernel_rfl
abbrev sdV (p q : Int × Int) : Value := .agg #[.int .i64 p.1, .int .i64 p.2, .int .i64 q.1, .int .i64 q.2]
theorem side_ok (A : Option Addr) (n c j k : Nat) (ps : List Pt) (p q : Pt) (i : Int) (hn : n ≤ 100) (hi : -1 ≤ i ∧ i ≤ 999) (hj : Int.tmod (i + n) n = j) (hjn : j < n) (hp : ps[j]? = some p) (hk : Int.tmod (i + 1 + n) n = k) (hkn : k < n) (hq : ps[k]? = some q) (w : World) (hP : PtS w A ps) :
    Calls Tryd.prog 18 #[.slice A n c, .int .i64 i] w fun e w' => e = .returned (sdV p q) ∧ Below w.heap.size w w' := by
  obtain ⟨h1, h2⟩ := hi
  obtain ⟨a, b⟩ := p
  obtain ⟨a2, b2⟩ := q
  have ca := Lib.hid (fun w' (hb : Below w.heap.size w w') => at_ok A n c j ps (a, b) i hn ⟨h1, by omega⟩ hj hjn hp w' (hP.below hb))
  have cb := Lib.hid (fun w' (hb : Below w.heap.size w w') => at_ok A n c k ps (a2, b2) (i + 1) hn ⟨by omega, by omega⟩ hk hkn hq w' (hP.below hb))
  have _k1 := h1
  unfold sdV
  clear hP hj hk hp hq
  go_enter Tryd.func18, Tryd.ntmps18
  go_wp2_with (first
    | (with_reducible show wpList _ _ _ (⟨_, .alloc 52, _, _, _, _⟩ :: _) _ _
       refine wpList_alloc_blk rfl 52 rfl _ zero_side ?_
       intro w3 g3 hG3 hgr3 hge3
       have hb3 := below_none (Below.refl w.heap.size w) hgr3 (Nat.le_refl _))
    | (go_at_call 15; clear _k1; (with_reducible refine (ca.out _ hb3).mono ?_); rintro e w4 ⟨rfl, hb4⟩
       have hb5 := hb3.trans (hb4.mono hb3.size)
       have hG4 := hG3.callee hb4)
    | (go_at_call 15; (with_reducible refine (cb.out _ hb5).mono ?_); rintro e w6 ⟨rfl, hb6⟩
       have hb7 := hb5.trans (hb6.mono hb5.size)
       have hG6 := hG4.callee hb6)
    | (with_reducible show wpList _ _ _ (⟨_, .store 52 _ _, _, _, _, _⟩ :: _) _ _
       refine wpList_store_blk rfl 52 _ _ rfl g3 #[.int .i64 a, .int .i64 b, .int .i64 a2, .int .i64 b2] rfl rfl 52 _ hG6 info_side rfl (by simp [Value.oneCell']) ?_
       intro w8 hG8 hgr8
       have hb8 := below_some hb7 hgr8 hb7.size hge3))
  exact bodyPost_ret (results_cell_row rfl _ _ g3 52 _ (0, 0) _ rfl hG8 Tryd.underlying52 rfl info_side) rfl ⟨rfl, hb8⟩
end Du
end Go.Proofs.YtkbfmogjhjdjmaaDoor
-- the text DuC
namespace Go.Proofs.YtkbfmogjhjdjmaaDoor
open Go.RowKit
namespace Du
set_option linter.unusedSimpArgs false
theorem sm_less {p q : Pt} (hp : Sm 12 p) (hq : Sm 12 q) : Sm 24 (less p q) := by
  obtain ⟨h1, h2, h3, h4⟩ := hp
  obtain ⟨k1, k2, k3, k4⟩ := hq
  refine ⟨?_, ?_, ?_, ?_⟩ <;> simp only [less] <;> omega
theorem Sm.up {a b : Int} {p : Pt} (h : Sm a p) (hab : a ≤ b) : Sm b p := ⟨by have := h.1; omega, by have := h.2.1; omega, by have := h.2.2.1; omega, by have := h.2.2.2; omega⟩
theorem mul_sm {a b B : Int} (h0 : 0 ≤ B) (h1 : -B ≤ a) (h2 : a ≤ B) (k1 : -B ≤ b) (k2 : b ≤ B) : -(B * B) ≤ a * b ∧ a * b ≤ B * B := by
  have h : (a * b).natAbs ≤ B.toNat * B.toNat := by
    rw [Int.natAbs_mul]
    exact Nat.mul_le_mul (by omega) (by omega)
  have e : ((B.toNat * B.toNat : Nat) : Int) = B * B := by push_cast; rw [Int.toNat_of_nonneg h0]
  omega
set_option maxHeartbeats 1000000 in
theorem has_ok (s0 s1 p : Pt) (h0 : Sm 12 s0) (h1 : Sm 12 s1) (hp : Sm 12 p) (w : World) : Calls Tryd.prog 19 #[sdV s0 s1, ptV p] w fun e w' => e = .returned (.bool (hasS s0 s1 p)) ∧ Below w.heap.size w w' := by
  obtain ⟨u, hu⟩ : ∃ u, less s0 p = u := ⟨_, rfl⟩
  obtain ⟨v, hv⟩ : ∃ v, less s1 p = v := ⟨_, rfl⟩
  have hsu : Sm 24 u := hu ▸ sm_less h0 hp
  have hsv : Sm 24 v := hv ▸ sm_less h1 hp
  have l1 := Lib.hid (less_ok s0 p (h0.up (by decide)) (hp.up (by decide)))
  have l2 := Lib.hid (less_ok s1 p (h1.up (by decide)) (hp.up (by decide)))
  rw [hu] at l1
  rw [hv] at l2
  have t1 := Lib.hid (times_ok u v (hsu.up (by decide)) (hsv.up (by decide)))
  have hG : hasS s0 s1 p = (decide (times u v = 0) && decide (u.1 * v.1 + u.2 * v.2 ≤ 0)) := by unfold hasS; rw [hu, hv]
  rw [hG]
  clear hG hu hv
  obtain ⟨z, hz⟩ : ∃ z, times u v = z := ⟨_, rfl⟩
  rw [hz] at t1 ⊢
  obtain ⟨a, b⟩ := s0
  obtain ⟨c, d⟩ := s1
  obtain ⟨x, y⟩ := p
  obtain ⟨u1, u2⟩ := u
  obtain ⟨v1, v2⟩ := v
  obtain ⟨s1, s2, s3, s4⟩ := hsu
  obtain ⟨r1, r2, r3, r4⟩ := hsv
  simp only [] at s1 s2 s3 s4 r1 r2 r3 r4
  obtain ⟨m1, hm1⟩ : ∃ m, u1 * v1 = m := ⟨_, rfl⟩
  obtain ⟨m2, hm2⟩ : ∃ m, u2 * v2 = m := ⟨_, rfl⟩
  have b1 := mul_sm (B := 24) (by decide) s1 s2 r1 r2
  have b2 := mul_sm (B := 24) (by decide) s3 s4 r3 r4
  rw [hm1] at b1
  rw [hm2] at b2
  simp only [hm1, hm2]
  obtain ⟨b11, b12⟩ := b1
  obtain ⟨b21, b22⟩ := b2
  replace hz := Lib.hid hz
  unfold sdV ptV
  go_enter Tryd.func19, Tryd.ntmps19
  go_wp2_with (first
    | (with_reducible show wpList _ _ _ (⟨some 2, .box 52 _, _, _, _, _⟩ :: _) _ _
       refine wpList_box_blk rfl 52 _ rfl #[.int .i64 a, .int .i64 b, .int .i64 c, .int .i64 d] rfl ?_
       intro w1 g1 hG1 hgr1 hge1
       have hb1 := below_none (Below.refl w.heap.size w) hgr1 (Nat.le_refl _))
    | (with_reducible show wpList _ _ _ (⟨some 3, .box 35 _, _, _, _, _⟩ :: _) _ _
       refine wpList_box_blk rfl 35 _ rfl #[.int .i64 x, .int .i64 y] rfl ?_
       intro w2 g2 hG2 hgr2 hge2
       have hb2 := below_none hb1 hgr2 hb1.size
       have hG12 := hG1.none_ hgr2))
  have hC : Hid (∀ w', Below w2.drew.heap.size w2.drew w' → w'.cell? ⟨g1, 0, none⟩ = some (.int .i64 a) ∧ w'.cell? ⟨g1, 1, none⟩ = some (.int .i64 b) ∧ w'.cell? ⟨g1, 2, none⟩ = some (.int .i64 c) ∧ w'.cell? ⟨g1, 3, none⟩ = some (.int .i64 d) ∧ w'.cell? ⟨g2, 0, none⟩ = some (.int .i64 x) ∧ w'.cell? ⟨g2, 1, none⟩ = some (.int .i64 y)) := fun w' hb =>
    have k1 := hG12.drew.callee hb
    have k2 := hG2.drew.callee hb
    ⟨k1.cell 0, k1.cell 1, k1.cell 2, k1.cell 3, k2.cell 0, k2.cell 1⟩
  refine De.region_det (by kernel_rfl) (by kernel_rfl) ?_
  refine De.Det.read (o := ?o1) (v := ?v1) 0 ?q1 (by kernel_rfl) (by kernel_rfl) ?w1 ?y1 ?h1
  case q1 => (simp only [List.getElem?_toArray, List.getElem?_cons_succ, List.getElem?_cons_zero]; rfl)
  case w1 => kernel_rfl
  case y1 => (intro w' hw'; obtain ⟨c1, c2, c3, c4, c5, c6⟩ := hC.out w' hw'; go_simp; (try with_reducible rfl))
  (try simp only [Act.put, List.setIfInBounds_toArray, List.set_cons_zero, List.set_cons_succ])
  refine De.Det.read (o := ?o2) (v := ?v2) 1 ?q2 (by kernel_rfl) (by kernel_rfl) ?w2 ?y2 ?h2
  case q2 => (simp only [List.getElem?_toArray, List.getElem?_cons_succ, List.getElem?_cons_zero]; rfl)
  case w2 => kernel_rfl
  case y2 => (intro w' hw'; obtain ⟨c1, c2, c3, c4, c5, c6⟩ := hC.out w' hw'; go_simp; (try with_reducible rfl))
  (try simp only [Act.put, List.setIfInBounds_toArray, List.set_cons_zero, List.set_cons_succ])
  refine De.Det.read (o := ?o3) (v := ?v3) 2 ?q3 (by kernel_rfl) (by kernel_rfl) ?w3 ?y3 ?h3
  case q3 => (simp only [List.getElem?_toArray, List.getElem?_cons_succ, List.getElem?_cons_zero]; rfl)
  case w3 => kernel_rfl
  case y3 => (intro w' hw'; obtain ⟨c1, c2, c3, c4, c5, c6⟩ := hC.out w' hw'; go_simp; (try with_reducible rfl))
  (try simp only [Act.put, List.setIfInBounds_toArray, List.set_cons_zero, List.set_cons_succ])
  refine De.Det.call (o := ?o4) (v := ?v4) (f := ?f4) (args := ?g4) 3 ?q4 (by kernel_rfl) (by kernel_rfl) ?w4 ?e4 ?c4 ?h4
  case q4 => (simp only [List.getElem?_toArray, List.getElem?_cons_succ, List.getElem?_cons_zero]; rfl)
  case w4 => kernel_rfl
  case e4 => (intro w'; go_simp; refine ⟨?_, ?_⟩ <;> with_reducible rfl)
  case c4 => (intro w' hw'; exact (l1.out w'))
  (try simp only [Act.put, List.setIfInBounds_toArray, List.set_cons_zero, List.set_cons_succ])
  refine De.Det.read (o := ?o5) (v := ?v5) 4 ?q5 (by kernel_rfl) (by kernel_rfl) ?w5 ?y5 ?h5
  case q5 => (simp only [List.getElem?_toArray, List.getElem?_cons_succ, List.getElem?_cons_zero]; rfl)
  case w5 => kernel_rfl
  case y5 => (intro w' hw'; obtain ⟨c1, c2, c3, c4, c5, c6⟩ := hC.out w' hw'; go_simp; (try with_reducible rfl))
  (try simp only [Act.put, List.setIfInBounds_toArray, List.set_cons_zero, List.set_cons_succ])
  refine De.Det.read (o := ?o6) (v := ?v6) 5 ?q6 (by kernel_rfl) (by kernel_rfl) ?w6 ?y6 ?h6
  case q6 => (simp only [List.getElem?_toArray, List.getElem?_cons_succ, List.getElem?_cons_zero]; rfl)
  case w6 => kernel_rfl
  case y6 => (intro w' hw'; obtain ⟨c1, c2, c3, c4, c5, c6⟩ := hC.out w' hw'; go_simp; (try with_reducible rfl))
  (try simp only [Act.put, List.setIfInBounds_toArray, List.set_cons_zero, List.set_cons_succ])
  refine De.Det.read (o := ?o7) (v := ?v7) 6 ?q7 (by kernel_rfl) (by kernel_rfl) ?w7 ?y7 ?h7
  case q7 => (simp only [List.getElem?_toArray, List.getElem?_cons_succ, List.getElem?_cons_zero]; rfl)
  case w7 => kernel_rfl
  case y7 => (intro w' hw'; obtain ⟨c1, c2, c3, c4, c5, c6⟩ := hC.out w' hw'; go_simp; (try with_reducible rfl))
  (try simp only [Act.put, List.setIfInBounds_toArray, List.set_cons_zero, List.set_cons_succ])
  refine De.Det.call (o := ?o8) (v := ?v8) (f := ?f8) (args := ?g8) 7 ?q8 (by kernel_rfl) (by kernel_rfl) ?w8 ?e8 ?c8 ?h8
  case q8 => (simp only [List.getElem?_toArray, List.getElem?_cons_succ, List.getElem?_cons_zero]; rfl)
  case w8 => kernel_rfl
  case e8 => (intro w'; go_simp; refine ⟨?_, ?_⟩ <;> with_reducible rfl)
  case c8 => (intro w' hw'; exact (l2.out w'))
  (try simp only [Act.put, List.setIfInBounds_toArray, List.set_cons_zero, List.set_cons_succ])
  refine De.Det.base ?_
  refine De.Det2.new (o := ?o9) 8 35 _ ?q9 (by kernel_rfl) (by kernel_rfl) ?k9 ?l9 zero_pt (fun g5 hn_g5 => ?_)
  case q9 => (simp only [List.getElem?_toArray, List.getElem?_cons_succ, List.getElem?_cons_zero]; rfl)
  case k9 => rfl
  case l9 => rfl
  clear hn_g5
  (try simp only [Act.put, List.setIfInBounds_toArray, List.set_cons_zero, List.set_cons_succ])
  refine De.Det2.new (o := ?o10) 9 35 _ ?q10 (by kernel_rfl) (by kernel_rfl) ?k10 ?l10 zero_pt (fun g6 hn_g6 => ?_)
  case q10 => (simp only [List.getElem?_toArray, List.getElem?_cons_succ, List.getElem?_cons_zero]; rfl)
  case k10 => rfl
  case l10 => rfl
  obtain ⟨ne_g6_g5, hn_g6⟩ := De.Own.of_none hn_g6
  have ne_g5_g6 := Ne.symm ne_g6_g5
  clear hn_g6
  (try simp only [Act.put, List.setIfInBounds_toArray, List.set_cons_zero, List.set_cons_succ])
  refine De.Det2.lay (o := ?o11) 10 35 ?xx11 ?yy11 g5 35 #[.int .i64 0, .int .i64 0] #[.int .i64 u1, .int .i64 u2] ?q11 (by kernel_rfl) (by kernel_rfl) ?k11 ?l11 ?x11 ?z11 ?j11 ?i11 ?s11 ?b11 ?h11
  case q11 => (simp only [List.getElem?_toArray, List.getElem?_cons_succ, List.getElem?_cons_zero]; rfl)
  case k11 => rfl
  case l11 => rfl
  case x11 => rfl
  case z11 => rfl
  case j11 => (simp [De.Own.put, *])
  case i11 => kernel_rfl
  case s11 => rfl
  case b11 => (simp [Value.oneCell'])
  (try simp only [Act.put, List.setIfInBounds_toArray, List.set_cons_zero, List.set_cons_succ])
  refine De.Det2.lay (o := ?o12) 11 35 ?xx12 ?yy12 g6 35 #[.int .i64 0, .int .i64 0] #[.int .i64 v1, .int .i64 v2] ?q12 (by kernel_rfl) (by kernel_rfl) ?k12 ?l12 ?x12 ?z12 ?j12 ?i12 ?s12 ?b12 ?h12
  case q12 => (simp only [List.getElem?_toArray, List.getElem?_cons_succ, List.getElem?_cons_zero]; rfl)
  case k12 => rfl
  case l12 => rfl
  case x12 => rfl
  case z12 => rfl
  case j12 => (simp [De.Own.put, *])
  case i12 => kernel_rfl
  case s12 => rfl
  case b12 => (simp [Value.oneCell'])
  (try simp only [Act.put, List.setIfInBounds_toArray, List.set_cons_zero, List.set_cons_succ])
  refine De.Det2.done (by kernel_rfl) ?_
  rintro w3 ⟨hb_w3, hO_w3⟩
  obtain ⟨hge_g5, hB_g5⟩ := hO_w3 g5 true 35 #[.int .i64 u1, .int .i64 u2] (by simp [De.Own.put, *])
  obtain ⟨hge_g6, hB_g6⟩ := hO_w3 g6 true 35 #[.int .i64 v1, .int .i64 v2] (by simp [De.Own.put, *])
  clear hO_w3
  clear hC hG12 hG2 hG1
  have d0 : w3.cell? ⟨g5, 0, none⟩ = some (.int .i64 u1) := hB_g5.cell 0
  have d1 : w3.cell? ⟨g5, 1, none⟩ = some (.int .i64 u2) := hB_g5.cell 1
  have e0 : w3.cell? ⟨g6, 0, none⟩ = some (.int .i64 v1) := hB_g6.cell 0
  have e1 : w3.cell? ⟨g6, 1, none⟩ = some (.int .i64 v2) := hB_g6.cell 1
  have hz2 := hb2.size
  have hb4 : Below w.heap.size w w3 := hb2.trans (Below.mono (w := w2) (w' := w3) ⟨hb_w3.os, hb_w3.tape, hb_w3.output, hb_w3.size, hb_w3.block⟩ hz2)
  go_wp2_with (first
    | (go_at_call 30; (with_reducible refine (t1.out _).mono ?_); rintro e w5 ⟨rfl, hb5⟩
       have hB5 := hB_g5.callee hb5
       have hB6 := hB_g6.callee hb5
       have d0' : w5.cell? ⟨g5, 0, none⟩ = some (.int .i64 u1) := hB5.cell 0
       have d1' : w5.cell? ⟨g5, 1, none⟩ = some (.int .i64 u2) := hB5.cell 1
       have e0' : w5.cell? ⟨g6, 0, none⟩ = some (.int .i64 v1) := hB6.cell 0
       have e1' : w5.cell? ⟨g6, 1, none⟩ = some (.int .i64 v2) := hB6.cell 1
       have hb6 := hb4.trans (hb5.mono hb4.size)))
  all_goals
    go_ret
    refine ⟨ret_bool ?_, hb6⟩
    simp_all
end Du
end Go.Proofs.YtkbfmogjhjdjmaaDoor
