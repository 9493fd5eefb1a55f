/- The texts DuU to DuX, joined by joinlist.py: their statements say what each proves. -/
import Derived.Test.YtkbfmogjhjdjmaaDoorDuR
import Derived.Test.YtkbfmogjhjdjmaaDoorDuST
import Derived.Test.YtkbfmogjhjdjmaaDoorBrAll
import Derived.Test.YtkbfmogjhjdjmaaDoorShelf
-- the text DuU
namespace Go.Proofs.YtkbfmogjhjdjmaaDoor
open Go.RowKit
namespace Du
def niceB (o : List Pt) : Bool := (o.all fun p => decide (0 ≤ p.1) && decide (p.1 ≤ 12) && decide (0 ≤ p.2) && decide (p.2 ≤ 12)) && decide o.Nodup
set_option maxRecDepth 100000 in
theorem nice3 : allP niceB 8 3 [] = true := by decide +kernel
set_option maxRecDepth 100000 in
theorem nice4 : allP niceB 8 4 [] = true := by decide +kernel
set_option maxRecDepth 100000 in
theorem nice5 : allP niceB 8 5 [] = true := by decide +kernel
set_option maxRecDepth 100000 in
theorem nice6 : allP niceB 8 6 [] = true := by decide +kernel
set_option maxRecDepth 100000 in
theorem nice7 : allP niceB 8 7 [] = true := by decide +kernel
set_option maxRecDepth 100000 in
theorem nice8 : allP niceB 8 8 [] = true := by decide +kernel
theorem goS_length (bs : List Nat) : ∀ (j k : Nat) (acc : List Pt), k ≤ j → (goS bs j k acc).length = k + acc.length
  | j, 0, acc, _ => by rw [goS_zero]; simp
  | 0, k + 1, acc, h => by omega
  | j + 1, k + 1, acc, h => by
    rw [goS]
    split
    · next hs => exact goS_length bs j (k + 1) acc hs.1
    · split
      · rw [goS_length bs j k _ (by omega)]; simp; omega
      · rw [goS_length bs j k _ (by omega)]; simp; omega
theorem piece_nice (bs : List Nat) (n : Nat) (h3 : 3 ≤ n) (h8 : n ≤ 8) : (goS bs 8 n []).length = n ∧ In12 (goS bs 8 n []) ∧ (goS bs 8 n []).Nodup ∧ dualB (goS bs 8 n []) = true := by
  have hn : allP niceB 8 n [] = true := by
    have h : n = 3 ∨ n = 4 ∨ n = 5 ∨ n = 6 ∨ n = 7 ∨ n = 8 := by omega
    rcases h with rfl | rfl | rfl | rfl | rfl | rfl
    · exact nice3
    · exact nice4
    · exact nice5
    · exact nice6
    · exact nice7
    · exact nice8
  have h1 := all_go bs 8 n [] h8 hn
  have h2 := all_go bs 8 n [] h8 (all_pieces n h3 h8)
  unfold niceB at h1
  simp only [Bool.and_eq_true, List.all_eq_true, decide_eq_true_eq] at h1
  refine ⟨by rw [goS_length bs 8 n [] h8]; rfl, fun p hp => ?_, h1.2, h2⟩
  obtain ⟨⟨⟨q1, q2⟩, q3⟩, q4⟩ := h1.1 p hp
  exact ⟨q1, q2, q3, q4⟩
def pt3 (t : Tri) (i : Nat) : Pt := if i = 0 then t.1 else if i = 1 then t.2.1 else t.2.2
def rowC (s t : Tri) (i : Nat) : Nat → Nat
  | 0 => 0
  | j + 1 => rowC s t i j + if pt3 s i = pt3 t j then 1 else 0
def totC (s t : Tri) : Nat → Nat
  | 0 => 0
  | i + 1 => totC s t i + rowC s t i 3
theorem rowC_le (s t : Tri) (i : Nat) : ∀ j, rowC s t i j ≤ j
  | 0 => Nat.le_refl _
  | j + 1 => by
    have := rowC_le s t i j
    rw [rowC]
    split <;> omega
theorem totC_le (s t : Tri) : ∀ i, totC s t i ≤ 3 * i
  | 0 => Nat.le_refl _
  | i + 1 => by
    have h1 := totC_le s t i
    have h2 := rowC_le s t i 3
    rw [totC]
    omega
theorem filter3 (p a b c : Pt) : ([a, b, c].filter fun q => decide (p = q)).length = ((0 + if p = a then 1 else 0) + if p = b then 1 else 0) + if p = c then 1 else 0 := by
  have e : ∀ q : Pt, (if p = q then 1 else 0) = (if decide (p = q) = true then (1 : Nat) else 0) := fun q => by simp
  rw [e a, e b, e c]
  simp only [List.filter_cons, List.filter_nil]
  generalize decide (p = a) = x
  generalize decide (p = b) = y
  generalize decide (p = c) = z
  cases x <;> cases y <;> cases z <;> rfl
theorem common_eq (s t : Tri) : common s t = totC s t 3 := by
  unfold common
  simp only [List.map_cons, List.map_nil, List.foldl_cons, List.foldl_nil, filter3]
  rfl
def tieRow (l : List Tri) (a : Nat) : Nat → List (Nat × Nat)
  | 0 => []
  | k + 1 => tieRow l a k ++ if 2 ≤ totC (triD l a) (triD l k) 3 then [(k, a)] else []
def tiesA (l : List Tri) : Nat → List (Nat × Nat)
  | 0 => []
  | a + 1 => tiesA l a ++ tieRow l a a
theorem tieRow_eq (l : List Tri) (a k : Nat) : ((List.range k).filterMap fun b => if 2 ≤ common (triD l a) (triD l b) then some (b, a) else none) = tieRow l a k := by
  induction k with
  | zero => rfl
  | succ k ih =>
    rw [List.range_succ, List.filterMap_append, ih, tieRow]
    congr 1
    by_cases h : 2 ≤ totC (triD l a) (triD l k) 3
    · simp [common_eq, h]
    · simp [common_eq, h]
theorem ties_eq (l : List Tri) : ties l = tiesA l l.length := by
  have h : ∀ n, ((List.range n).flatMap fun a => tieRow l a a) = tiesA l n := by
    intro n
    induction n with
    | zero => rfl
    | succ n ih => rw [List.range_succ, List.flatMap_append, ih, tiesA]; simp
  rw [← h, ties]
  congr 1
  funext a
  exact tieRow_eq l a a
theorem tieRow_len (l : List Tri) (a k : Nat) : (tieRow l a k).length ≤ k := by
  induction k with
  | zero => exact Nat.le_refl _
  | succ k ih =>
    rw [tieRow, List.length_append]
    split
    · simp; omega
    · simp; omega
theorem tiesA_len (l : List Tri) (n : Nat) : (tiesA l n).length ≤ n * n := by
  induction n with
  | zero => exact Nat.le_refl _
  | succ n ih =>
    rw [tiesA, List.length_append]
    have := tieRow_len l n n
    have e : (n + 1) * (n + 1) = n * n + n + n + 1 := by rw [Nat.add_mul, Nat.mul_add]; omega
    omega
end Du
end Go.Proofs.YtkbfmogjhjdjmaaDoor
-- the text DuV
namespace Go.Proofs.YtkbfmogjhjdjmaaDoor
open Go.RowKit
namespace Du
set_option linter.unusedSimpArgs false
theorem tris_len : ∀ (f : Nat) (o : List Pt), (tris f o).length = f + 1
  | 0, _ => rfl
  | f + 1, o => by
    rw [tris_succ f o rfl, List.length_cons, tris_len f]
theorem triC_length : ∀ l : List Tri, (triC l).length = l.length * 6
  | [] => rfl
  | t :: r => by
    have := triC_length r
    simp only [triC, List.flatMap_cons, List.length_append, List.length_cons] at this ⊢
    rw [this]
    simp [triV]
    omega
theorem triC_at : ∀ (l : List Tri) (k r : Nat) (t : Tri), l[k]? = some t → r < 6 → (triC l)[k * 6 + r]? = (triV t)[r]?
  | [], k, r, t, h, _ => by simp at h
  | s :: l, 0, r, t, h, hr => by
    have e : s = t := by simpa using h
    subst e
    rw [triC, List.flatMap_cons, Nat.zero_mul, Nat.zero_add, List.getElem?_append_left (by simp [triV]; omega)]
  | s :: l, k + 1, r, t, h, hr => by
    rw [triC, List.flatMap_cons, List.getElem?_append_right (by simp [triV]; omega)]
    rw [← triC_at l k r t (by simpa using h) hr]
    congr 1
    simp [triV]
    omega
/-- a slice of triangles, from its block's first cell on -/
def TriS (w : World) (g : Nat) (l : List Tri) : Prop := ∃ cs, Blk w g 36 cs ∧ ∀ (k r : Nat) (t : Tri), l[k]? = some t → r < 6 → cs[k * 6 + r]? = (triV t)[r]?
theorem TriS.below {w w' : World} {g : Nat} {l : List Tri} (h : TriS w g l) (hb : Below w.heap.size w w') : TriS w' g l := by
  obtain ⟨cs, hB, hc⟩ := h
  exact ⟨cs, hB.callee hb, hc⟩
theorem TriS.lt {w : World} {g : Nat} {l : List Tri} (h : TriS w g l) : g < w.heap.size := by
  obtain ⟨cs, hB, hc⟩ := h
  exact hB.lt
theorem TriS.at_ {w : World} {g : Nat} {l : List Tri} (h : TriS w g l) {k : Nat} {t : Tri} (hk : l[k]? = some t) {r : Nat} {u : Value} (hr : (triV t)[r]? = some u) : w.cell? ⟨g, k * 6 + r, none⟩ = some u := by
  obtain ⟨cs, hB, hc⟩ := h
  have h6 : r < 6 := (List.getElem?_eq_some_iff.1 hr).1
  rw [hB.cell, hc k r t hk h6, hr]
theorem OwnT.tri {w : World} {base : Nat} {v : Value} {l : List Tri} (h : OwnT w base v l) (h0 : 0 < l.length) : ∃ g c, v = .slice (some ⟨g, 0, none⟩) l.length c ∧ l.length ≤ c ∧ TriS w g l := by
  rcases h.2 with ⟨_, h0'⟩ | ⟨g, cap, cur, rfl, hb, hg, hnc, hcm, hsz, htk⟩
  · omega
  · refine ⟨g, cap, rfl, hnc, cur, hg, fun k r t hk hr => ?_⟩
    have hkl := (List.getElem?_eq_some_iff.1 hk).1
    have e := triC_at l k r t hk hr
    rw [← htk, List.getElem?_take, if_pos (by omega), Array.getElem?_toList] at e
    exact e
theorem tri_get {l : List Tri} {k : Nat} (h : k < l.length) : l[k]? = some (triD l k) := by
  unfold triD
  rw [List.getD_eq_getElem?_getD, List.getElem?_eq_getElem h]
  rfl
theorem info_pt2 : (Tryd.prog.info? 35).map (·.size) = some 2 := info_pt
theorem index_tri (t : Tri) (i : Nat) (hi : i < 3) (w : World) : (Instr.index 36 (.agg #[.int .i64 t.1.1, .int .i64 t.1.2, .int .i64 t.2.1.1, .int .i64 t.2.1.2, .int .i64 t.2.2.1, .int .i64 t.2.2.2]) (.int .i64 (i : Int))).run Tryd.prog w = .ok (ptV (pt3 t i)) w := by
  have h := run_index_agg (P := Tryd.prog) #[.int .i64 t.1.1, .int .i64 t.1.2, .int .i64 t.2.1.1, .int .i64 t.2.1.2, .int .i64 t.2.2.1, .int .i64 t.2.2.2] .i64 i Tryd.underlying36 Tryd.underlying35 rfl info_pt hi w
  rw [h]
  have h3 : i = 0 ∨ i = 1 ∨ i = 2 := by omega
  rcases h3 with rfl | rfl | rfl <;> rfl
end Du
end Go.Proofs.YtkbfmogjhjdjmaaDoor
-- the text DuX
namespace Go.Proofs.YtkbfmogjhjdjmaaDoor
open Go.RowKit
namespace Du
set_option linter.unusedSimpArgs false
set_option maxRecDepth 100000 in
set_option maxHeartbeats 1000000 in
theorem index2_ok (g off : Nat) (n c : Nat) (o : List Pt) (p : Pt) (hn : o.length = n) (h8 : n ≤ 100) (w : World) (hP : ∀ w', Below w.heap.size w w' → ∀ (i : Nat) (q : Pt), o[i]? = some q → w'.cell? ⟨g, off + i * 2, none⟩ = some (.int .i64 q.1) ∧ w'.cell? ⟨g, off + i * 2 + 1, none⟩ = some (.int .i64 q.2)) :
    Calls Tryd.prog 26 #[.slice (some ⟨g, off, none⟩) n c, ptV p] w fun e w' => (∃ i : Int, e = .returned (.int .i64 i) ∧ decide (0 ≤ i) = decide (p ∈ o)) ∧ Below w.heap.size w w' := by
  obtain ⟨a, b⟩ := p
  have hget := Lib.hid (fun i (hi : i < n) => get_at (o := o) (i := i) (hn ▸ hi))
  have hcell : Hid (∀ w', Below w.heap.size w w' → ∀ i, i < n → ∃ x y, o[i]? = some (x, y) ∧ w'.cell? ⟨g, off + i * 2, none⟩ = some (.int .i64 x) ∧ w'.cell? ⟨g, off + i * 2 + 1, none⟩ = some (.int .i64 y)) := fun w' hb i hi => by
    obtain ⟨h1, h2⟩ := hP w' hb i _ (hget.out i hi)
    exact ⟨_, _, hget.out i hi, h1, h2⟩
  have hN := Lib.hid hn
  clear hP hget hn
  unfold ptV
  go_enter Tryd.func26, Tryd.ntmps26
  go_wp2_with (first
    | (with_reducible show wpList _ _ _ (⟨some 3, .box 35 _, _, _, _, _⟩ :: _) _ _
       refine wpList_box_blk rfl 35 _ rfl #[.int .i64 a, .int .i64 b] rfl ?_
       intro w2 g2 hG2 hgr2 hge2
       have hb2 := below_none (Below.refl w.heap.size w) hgr2 (Nat.le_refl _)
       clear hgr2))
  go_loopw [8] (fun v wr => ∃ k : Nat, k ≤ n ∧ v = .int .i64 k ∧ (∀ i, i < k → o[i]? ≠ some (a, b)) ∧ Below w2.heap.size w2 wr) (fun v _ => n - (intOf v).toNat)
  case atStart => exact ⟨0, by omega, rfl, fun i hi => absurd hi (by omega), Below.refl _ _⟩
  case round =>
    obtain ⟨k, hk, rfl, hno, hb⟩ := hrel
    obtain ⟨wa, rfl⟩ : ∃ x, x = wr := ⟨wr, rfl⟩
    have hbw := hb2.trans (hb.mono hb2.size)
    by_cases hlt : k < n
    · have hlti : (k : Int) < n := by omega
      obtain ⟨x, y, hx, _, _⟩ := hcell.out wa hbw k hlt
      have hno' := Lib.hid hno
      have hX := Lib.hid hx
      clear hno hx
      go_wp2_with (fail)
      have hC : Hid (∀ w', Below wa.drew.heap.size wa.drew w' → w'.cell? ⟨g2, 0, none⟩ = some (.int .i64 a) ∧ w'.cell? ⟨g2, 1, none⟩ = some (.int .i64 b) ∧ w'.cell? ⟨g, off + k * 2, none⟩ = some (.int .i64 x) ∧ w'.cell? ⟨g, off + k * 2 + 1, none⟩ = some (.int .i64 y)) := fun w' hw => by
        have hw2 : Below wa.heap.size wa w' := ⟨hw.os, hw.tape, hw.output, hw.size, hw.block⟩
        have hB := (hG2.callee hb).callee hw2
        obtain ⟨x', y', ex, h1, h2⟩ := hcell.out w' (hbw.trans (hw2.mono hbw.size)) k hlt
        rw [hX.out] at ex
        injection ex with ex
        injection ex with e1 e2
        subst e1 e2
        exact ⟨hB.cell 0, hB.cell 1, h1, h2⟩
      have hk0 : (0 : Int) ≤ k := by omega
      by_cases hax : a = x
      · obtain rfl := hax
        by_cases hby : b = y
        · obtain rfl := hby
          refine De.region_det (by kernel_rfl) (by kernel_rfl) ?_
          refine De.Det.read (o := ?o1) (v := ?v1) 0 ?q1 (by kernel_rfl) (by kernel_rfl) ?w1 ?y1 ?h1
          case q1 => (simp only [List.getElem?_toArray, List.getElem?_cons_succ, List.getElem?_cons_zero]; rfl)
          case w1 => kernel_rfl
          case y1 => (intro w' hw'; obtain ⟨c1, c2, c3, c4⟩ := hC.out w' hw'; go_simp; (try with_reducible rfl))
          (try simp only [Act.put, List.setIfInBounds_toArray, List.set_cons_zero, List.set_cons_succ])
          refine De.Det.read (o := ?o2) (v := ?v2) 1 ?q2 (by kernel_rfl) (by kernel_rfl) ?w2 ?y2 ?h2
          case q2 => (simp only [List.getElem?_toArray, List.getElem?_cons_succ, List.getElem?_cons_zero]; rfl)
          case w2 => kernel_rfl
          case y2 => (intro w' hw'; obtain ⟨c1, c2, c3, c4⟩ := hC.out w' hw'; go_simp; (try with_reducible rfl))
          (try simp only [Act.put, List.setIfInBounds_toArray, List.set_cons_zero, List.set_cons_succ])
          refine De.Det.read (o := ?o3) (v := ?v3) 2 ?q3 (by kernel_rfl) (by kernel_rfl) ?w3 ?y3 ?h3
          case q3 => (simp only [List.getElem?_toArray, List.getElem?_cons_succ, List.getElem?_cons_zero]; rfl)
          case w3 => kernel_rfl
          case y3 => (intro w' hw'; obtain ⟨c1, c2, c3, c4⟩ := hC.out w' hw'; go_simp; (try with_reducible rfl))
          (try simp only [Act.put, List.setIfInBounds_toArray, List.set_cons_zero, List.set_cons_succ])
          refine De.Det.read (o := ?o4) (v := ?v4) 3 ?q4 (by kernel_rfl) (by kernel_rfl) ?w4 ?y4 ?h4
          case q4 => (simp only [List.getElem?_toArray, List.getElem?_cons_succ, List.getElem?_cons_zero]; rfl)
          case w4 => kernel_rfl
          case y4 => (intro w' hw'; obtain ⟨c1, c2, c3, c4⟩ := hC.out w' hw'; go_simp; (try with_reducible rfl))
          (try simp only [Act.put, List.setIfInBounds_toArray, List.set_cons_zero, List.set_cons_succ])
          refine De.Det.read (o := ?o5) (v := ?v5) 4 ?q5 (by kernel_rfl) (by kernel_rfl) ?w5 ?y5 ?h5
          case q5 => (simp only [List.getElem?_toArray, List.getElem?_cons_succ, List.getElem?_cons_zero]; rfl)
          case w5 => kernel_rfl
          case y5 => (intro w' hw'; obtain ⟨c1, c2, c3, c4⟩ := hC.out w' hw'; go_simp; (try with_reducible rfl))
          (try simp only [Act.put, List.setIfInBounds_toArray, List.set_cons_zero, List.set_cons_succ])
          refine De.Det.read (o := ?o6) (v := ?v6) 5 ?q6 (by kernel_rfl) (by kernel_rfl) ?w6 ?y6 ?h6
          case q6 => (simp only [List.getElem?_toArray, List.getElem?_cons_succ, List.getElem?_cons_zero]; rfl)
          case w6 => kernel_rfl
          case y6 => (intro w' hw'; obtain ⟨c1, c2, c3, c4⟩ := hC.out w' hw'; go_simp; (try with_reducible rfl))
          (try simp only [Act.put, List.setIfInBounds_toArray, List.set_cons_zero, List.set_cons_succ])
          refine De.Det.base ?_
          refine De.Det2.done (by kernel_rfl) ?_
          rintro w3 ⟨hb_w3, hO_w3⟩
          clear hO_w3
          have hbz : Below w2.heap.size w2 w3 := hb.trans (Below.mono (w := wa) (w' := w3) ⟨hb_w3.os, hb_w3.tape, hb_w3.output, hb_w3.size, hb_w3.block⟩ hb.size)
          go_wp2_with (fail)
          go_ret
          exact ⟨⟨_, rfl, by simp; exact List.mem_of_getElem? hX.out⟩, hb2.trans (hbz.mono hb2.size)⟩
        · have hne := Lib.hid (show ¬ (a = a ∧ b = y) from fun e => hby e.2)
          refine De.region_det (by kernel_rfl) (by kernel_rfl) ?_
          refine De.Det.read (o := ?o7) (v := ?v7) 0 ?q7 (by kernel_rfl) (by kernel_rfl) ?w7 ?y7 ?h7
          case q7 => (simp only [List.getElem?_toArray, List.getElem?_cons_succ, List.getElem?_cons_zero]; rfl)
          case w7 => kernel_rfl
          case y7 => (intro w' hw'; obtain ⟨c1, c2, c3, c4⟩ := hC.out w' hw'; go_simp; (try with_reducible rfl))
          (try simp only [Act.put, List.setIfInBounds_toArray, List.set_cons_zero, List.set_cons_succ])
          refine De.Det.read (o := ?o8) (v := ?v8) 1 ?q8 (by kernel_rfl) (by kernel_rfl) ?w8 ?y8 ?h8
          case q8 => (simp only [List.getElem?_toArray, List.getElem?_cons_succ, List.getElem?_cons_zero]; rfl)
          case w8 => kernel_rfl
          case y8 => (intro w' hw'; obtain ⟨c1, c2, c3, c4⟩ := hC.out w' hw'; go_simp; (try with_reducible rfl))
          (try simp only [Act.put, List.setIfInBounds_toArray, List.set_cons_zero, List.set_cons_succ])
          refine De.Det.read (o := ?o9) (v := ?v9) 2 ?q9 (by kernel_rfl) (by kernel_rfl) ?w9 ?y9 ?h9
          case q9 => (simp only [List.getElem?_toArray, List.getElem?_cons_succ, List.getElem?_cons_zero]; rfl)
          case w9 => kernel_rfl
          case y9 => (intro w' hw'; obtain ⟨c1, c2, c3, c4⟩ := hC.out w' hw'; go_simp; (try with_reducible rfl))
          (try simp only [Act.put, List.setIfInBounds_toArray, List.set_cons_zero, List.set_cons_succ])
          refine De.Det.read (o := ?o10) (v := ?v10) 3 ?q10 (by kernel_rfl) (by kernel_rfl) ?w10 ?y10 ?h10
          case q10 => (simp only [List.getElem?_toArray, List.getElem?_cons_succ, List.getElem?_cons_zero]; rfl)
          case w10 => kernel_rfl
          case y10 => (intro w' hw'; obtain ⟨c1, c2, c3, c4⟩ := hC.out w' hw'; go_simp; (try with_reducible rfl))
          (try simp only [Act.put, List.setIfInBounds_toArray, List.set_cons_zero, List.set_cons_succ])
          refine De.Det.read (o := ?o11) (v := ?v11) 4 ?q11 (by kernel_rfl) (by kernel_rfl) ?w11 ?y11 ?h11
          case q11 => (simp only [List.getElem?_toArray, List.getElem?_cons_succ, List.getElem?_cons_zero]; rfl)
          case w11 => kernel_rfl
          case y11 => (intro w' hw'; obtain ⟨c1, c2, c3, c4⟩ := hC.out w' hw'; go_simp; (try with_reducible rfl))
          (try simp only [Act.put, List.setIfInBounds_toArray, List.set_cons_zero, List.set_cons_succ])
          refine De.Det.read (o := ?o12) (v := ?v12) 5 ?q12 (by kernel_rfl) (by kernel_rfl) ?w12 ?y12 ?h12
          case q12 => (simp only [List.getElem?_toArray, List.getElem?_cons_succ, List.getElem?_cons_zero]; rfl)
          case w12 => kernel_rfl
          case y12 => (intro w' hw'; obtain ⟨c1, c2, c3, c4⟩ := hC.out w' hw'; go_simp; (try with_reducible rfl))
          (try simp only [Act.put, List.setIfInBounds_toArray, List.set_cons_zero, List.set_cons_succ])
          refine De.Det.base ?_
          refine De.Det2.done (by kernel_rfl) ?_
          rintro w3 ⟨hb_w3, hO_w3⟩
          clear hO_w3
          have hbz : Below w2.heap.size w2 w3 := hb.trans (Below.mono (w := wa) (w' := w3) ⟨hb_w3.os, hb_w3.tape, hb_w3.output, hb_w3.size, hb_w3.block⟩ hb.size)
          go_wp2_with (fail)
          go_roundw
          case rel => exact ⟨k + 1, by omega, by go_num, fun i hi => by
              rcases Nat.lt_or_ge i k with h | h
              · exact hno'.out i h
              · obtain rfl : i = k := by omega
                rw [hX.out]
                intro e
                injection e with e
                injection e with e1 e2
                exact hne.out ⟨e1.symm, e2.symm⟩, hbz⟩
          case measure => simp [intOf]; omega
      · have hne := Lib.hid (show ¬ (a = x ∧ b = y) from fun e => hax e.1)
        refine De.region_det (by kernel_rfl) (by kernel_rfl) ?_
        refine De.Det.read (o := ?o13) (v := ?v13) 0 ?q13 (by kernel_rfl) (by kernel_rfl) ?w13 ?y13 ?h13
        case q13 => (simp only [List.getElem?_toArray, List.getElem?_cons_succ, List.getElem?_cons_zero]; rfl)
        case w13 => kernel_rfl
        case y13 => (intro w' hw'; obtain ⟨c1, c2, c3, c4⟩ := hC.out w' hw'; go_simp; (try with_reducible rfl))
        (try simp only [Act.put, List.setIfInBounds_toArray, List.set_cons_zero, List.set_cons_succ])
        refine De.Det.read (o := ?o14) (v := ?v14) 1 ?q14 (by kernel_rfl) (by kernel_rfl) ?w14 ?y14 ?h14
        case q14 => (simp only [List.getElem?_toArray, List.getElem?_cons_succ, List.getElem?_cons_zero]; rfl)
        case w14 => kernel_rfl
        case y14 => (intro w' hw'; obtain ⟨c1, c2, c3, c4⟩ := hC.out w' hw'; go_simp; (try with_reducible rfl))
        (try simp only [Act.put, List.setIfInBounds_toArray, List.set_cons_zero, List.set_cons_succ])
        refine De.Det.read (o := ?o15) (v := ?v15) 2 ?q15 (by kernel_rfl) (by kernel_rfl) ?w15 ?y15 ?h15
        case q15 => (simp only [List.getElem?_toArray, List.getElem?_cons_succ, List.getElem?_cons_zero]; rfl)
        case w15 => kernel_rfl
        case y15 => (intro w' hw'; obtain ⟨c1, c2, c3, c4⟩ := hC.out w' hw'; go_simp; (try with_reducible rfl))
        (try simp only [Act.put, List.setIfInBounds_toArray, List.set_cons_zero, List.set_cons_succ])
        refine De.Det.read (o := ?o16) (v := ?v16) 3 ?q16 (by kernel_rfl) (by kernel_rfl) ?w16 ?y16 ?h16
        case q16 => (simp only [List.getElem?_toArray, List.getElem?_cons_succ, List.getElem?_cons_zero]; rfl)
        case w16 => kernel_rfl
        case y16 => (intro w' hw'; obtain ⟨c1, c2, c3, c4⟩ := hC.out w' hw'; go_simp; (try with_reducible rfl))
        (try simp only [Act.put, List.setIfInBounds_toArray, List.set_cons_zero, List.set_cons_succ])
        refine De.Det.read (o := ?o17) (v := ?v17) 4 ?q17 (by kernel_rfl) (by kernel_rfl) ?w17 ?y17 ?h17
        case q17 => (simp only [List.getElem?_toArray, List.getElem?_cons_succ, List.getElem?_cons_zero]; rfl)
        case w17 => kernel_rfl
        case y17 => (intro w' hw'; obtain ⟨c1, c2, c3, c4⟩ := hC.out w' hw'; go_simp; (try with_reducible rfl))
        (try simp only [Act.put, List.setIfInBounds_toArray, List.set_cons_zero, List.set_cons_succ])
        refine De.Det.read (o := ?o18) (v := ?v18) 5 ?q18 (by kernel_rfl) (by kernel_rfl) ?w18 ?y18 ?h18
        case q18 => (simp only [List.getElem?_toArray, List.getElem?_cons_succ, List.getElem?_cons_zero]; rfl)
        case w18 => kernel_rfl
        case y18 => (intro w' hw'; obtain ⟨c1, c2, c3, c4⟩ := hC.out w' hw'; go_simp; (try with_reducible rfl))
        (try simp only [Act.put, List.setIfInBounds_toArray, List.set_cons_zero, List.set_cons_succ])
        refine De.Det.base ?_
        refine De.Det2.done (by kernel_rfl) ?_
        rintro w3 ⟨hb_w3, hO_w3⟩
        clear hO_w3
        have hbz : Below w2.heap.size w2 w3 := hb.trans (Below.mono (w := wa) (w' := w3) ⟨hb_w3.os, hb_w3.tape, hb_w3.output, hb_w3.size, hb_w3.block⟩ hb.size)
        go_wp2_with (fail)
        go_roundw
        case rel => exact ⟨k + 1, by omega, by go_num, fun i hi => by
            rcases Nat.lt_or_ge i k with h | h
            · exact hno'.out i h
            · obtain rfl : i = k := by omega
              rw [hX.out]
              intro e
              injection e with e
              injection e with e1 e2
              exact hne.out ⟨e1.symm, e2.symm⟩, hbz⟩
        case measure => simp [intOf]; omega
    · obtain rfl : n = k := by omega
      go_wp2_with (fail)
      go_ret
      refine ⟨⟨_, rfl, ?_⟩, hbw⟩
      have : (a, b) ∉ o := fun hm => by
        obtain ⟨i, hi, e⟩ := List.getElem_of_mem hm
        exact hno i (by rw [← hN.out]; exact hi) (by rw [List.getElem?_eq_getElem hi, e])
      simp [this]
theorem contains2_ok (g off : Nat) (n c : Nat) (o : List Pt) (p : Pt) (hn : o.length = n) (h8 : n ≤ 100) (w : World) (hP : ∀ w', Below w.heap.size w w' → ∀ (i : Nat) (q : Pt), o[i]? = some q → w'.cell? ⟨g, off + i * 2, none⟩ = some (.int .i64 q.1) ∧ w'.cell? ⟨g, off + i * 2 + 1, none⟩ = some (.int .i64 q.2)) :
    Calls Tryd.prog 12 #[.slice (some ⟨g, off, none⟩) n c, ptV p] w fun e w' => e = .returned (.bool (decide (p ∈ o))) ∧ Below w.heap.size w w' := by
  have hI := Lib.hid (fun w' (hb : Below w.heap.size w w') => index2_ok g off n c o p hn h8 w' (fun w2 hb2 => hP w2 (hb.trans (hb2.mono hb.size))))
  obtain ⟨q, hq⟩ : ∃ q, decide (p ∈ o) = q := ⟨_, rfl⟩
  rw [hq] at hI ⊢
  obtain ⟨a, b⟩ := p
  clear hP hn hq
  unfold ptV
  go_enter Tryd.func12, Tryd.ntmps12
  go_wp2_with (first
    | (with_reducible show wpList _ _ _ (⟨some 3, .box 35 _, _, _, _, _⟩ :: _) _ _
       refine wpList_box_blk rfl 35 _ rfl #[.int .i64 a, .int .i64 b] rfl ?_
       intro w2 g2 hG2 hgr2 hge2
       have hb2 := below_none (Below.refl w.heap.size w) hgr2 (Nat.le_refl _)
       have c0 : w2.cell? ⟨g2, 0, none⟩ = some (.int .i64 a) := hG2.cell 0
       have c1 : w2.cell? ⟨g2, 1, none⟩ = some (.int .i64 b) := hG2.cell 1
       clear hgr2)
    | (go_at_call 26; (with_reducible refine (hI.out _ hb2).mono ?_); rintro e w5 ⟨⟨i, rfl, hi⟩, hb5⟩
       have hb6 := hb2.trans (hb5.mono hb2.size)
       replace hi := Lib.hid hi))
  go_ret
  exact ⟨ret_bool hi.out, hb6⟩
theorem tArr_pairs : ∀ ps : List (Nat × Nat), Br.tArr ps = Ti.pairsV ps := by
  intro ps
  induction ps with
  | nil => rfl
  | cons p l ih =>
    obtain ⟨a, b⟩ := p
    rw [Br.tArr, ih]
    rfl
theorem own_ties {w : World} {base : Nat} {v : Value} {ps : List (Nat × Nat)} (h : Ti.OwnP w base v ps) : ∃ A c, v = .slice A ps.length c ∧ Br.TieS w A ps := by
  rcases h.2 with ⟨rfl, h0⟩ | ⟨g, cap, cur, rfl, hb, hg, hc, hm, hsz, htk⟩
  · exact ⟨none, 0, by rw [h0], Or.inl (List.eq_nil_of_length_eq_zero h0)⟩
  · refine ⟨_, _, rfl, Or.inr ⟨g, cur, rfl, hg, fun j u hj => ?_⟩⟩
    rw [tArr_pairs, ← htk, List.getElem?_take] at hj
    split at hj
    · simpa using hj
    · cases hj
theorem cont_any {B : Nat} {A : Option Addr} {n c : Nat} {xs : List Int} (x : Int) (w : World) (hn : n ≤ 100) (hsp : ∀ ad, A = some ad → ad.spot = none) (h : RInts w B A n xs) : Calls Tryd.prog 11 #[.slice A n c, .int .i64 x] w fun e w' => e = .returned (.bool (xs.contains x)) ∧ Below w.heap.size w w' := by
  have hl := h.len
  rcases Nat.eq_zero_or_pos n with h0 | h0
  · subst h0
    have hx : xs = [] := List.eq_nil_of_length_eq_zero hl
    subst hx
    exact (Tryd.slices_Contains_int_empty A c x w).mono fun e w' ⟨h1, h2⟩ => ⟨by rw [h1]; rfl, by rw [h2]; exact Below.refl _ _⟩
  · obtain ⟨ad, e, hb, hc⟩ := h.2 h0
    subst e
    have hs0 := hsp ad rfl
    obtain ⟨g, off, sp⟩ := ad
    obtain rfl : sp = none := hs0
    have hcc : ∀ j, j < xs.length → w.cell? ⟨g, off + j, none⟩ = some (.int .i64 (xs.getD j 0)) := fun j hj => by
      have := hc j (.int .i64 (xs.getD j 0)) (ints_get xs j hj)
      rw [Addr.add_lit] at this
      exact this
    refine (Tryd.slices_Contains_int g off n c xs x w (by omega) (by omega) hcc).mono fun e w' ⟨h1, h2⟩ => ⟨?_, by rw [h2]; exact Below.refl _ _⟩
    rw [h1, ← hl, List.take_length]
theorem natL_contains (l : List Nat) (i : Nat) : (natL l).contains (i : Int) = l.contains i := by
  induction l with
  | nil => rfl
  | cons x l ih =>
    unfold natL at ih ⊢
    rw [List.map_cons, List.contains_cons, List.contains_cons, ih]
    congr 1
    rw [Bool.eq_iff_iff]
    simp
    omega
def triL (t : Tri) : List Pt := [t.1, t.2.1, t.2.2]
theorem tri_mem (t : Tri) (p : Pt) : decide (p ∈ triL t) = in3 t p := by
  unfold triL in3
  rw [Bool.eq_iff_iff]
  simp only [decide_eq_true_eq, Bool.or_eq_true, List.mem_cons, List.not_mem_nil, or_false]
  constructor
  · rintro (h | h | h)
    · exact Or.inl (Or.inl h.symm)
    · exact Or.inl (Or.inr h.symm)
    · exact Or.inr h.symm
  · rintro ((h | h) | h)
    · exact Or.inl h.symm
    · exact Or.inr (Or.inl h.symm)
    · exact Or.inr (Or.inr h.symm)
theorem OwnI_reads {w : World} {base : Nat} {v : Value} {xs : List Int} (h : OwnI w base v xs) : ∃ A c, v = .slice A xs.length c ∧ (∀ ad, A = some ad → ad.spot = none) ∧ RInts w w.heap.size A xs.length xs := by
  rcases h.2 with ⟨rfl, h0⟩ | ⟨g, cap, cur, rfl, hb, hg, r⟩
  · have : xs = [] := List.eq_nil_of_length_eq_zero h0
    subst this
    exact ⟨none, 0, rfl, fun _ e => by (cases e), RInts.none_⟩
  · exact ⟨_, _, rfl, fun ad e => by (injection e with e; rw [← e]), RInts.of_own h⟩
theorem tri_part {w : World} {g : Nat} {l : List Tri} {k : Nat} {t : Tri} (h : TriS w g l) (hk : l[k]? = some t) : ∀ w', Below w.heap.size w w' → ∀ (i : Nat) (q : Pt), (triL t)[i]? = some q → w'.cell? ⟨g, k * 6 + i * 2, none⟩ = some (.int .i64 q.1) ∧ w'.cell? ⟨g, k * 6 + i * 2 + 1, none⟩ = some (.int .i64 q.2) := fun w' hb i q hi => by
  have h' := h.below hb
  have hi3 : i < 3 := (List.getElem?_eq_some_iff.1 hi).1
  have h3 : i = 0 ∨ i = 1 ∨ i = 2 := by omega
  obtain ⟨a, b, c⟩ := t
  rcases h3 with rfl | rfl | rfl
  · obtain rfl : a = q := by simpa [triL] using hi
    exact ⟨h'.at_ hk (r := 0) rfl, h'.at_ hk (r := 1) rfl⟩
  · obtain rfl : b = q := by simpa [triL] using hi
    exact ⟨h'.at_ hk (r := 2) rfl, h'.at_ hk (r := 3) rfl⟩
  · obtain rfl : c = q := by simpa [triL] using hi
    exact ⟨h'.at_ hk (r := 4) rfl, h'.at_ hk (r := 5) rfl⟩
end Du
end Go.Proofs.YtkbfmogjhjdjmaaDoor
