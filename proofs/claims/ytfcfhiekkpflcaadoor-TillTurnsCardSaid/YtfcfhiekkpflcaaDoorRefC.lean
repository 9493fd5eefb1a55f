/- The reference's count: a table by customers of both kinds. -/
import Derived.Test.YtfcfhiekkpflcaaDoorRefA
import Derived.RegionTactic
import Derived.BigRegion
namespace Go.Proofs.YtfcfhiekkpflcaaDoor
open Go.RowKit
theorem gd_le : ∀ s c n b : Nat, gdN s c n b ≤ 2 ^ s := by
  intro s
  induction s with
  | zero => intro c n b; simp [gdN]
  | succ s ih =>
    intro c n b
    rw [gdN, Nat.pow_succ]
    have h1 := ih (c - 1) n (b + 1)
    have h2 := ih c (n - 1) (b - 1)
    split <;> split <;> omega
/-- what the table holds for customers that are left -/
def cvN (C N B c n : Nat) : Nat := if N + c ≤ B + C + n then gdN (c + n) c n (B + C + n - c - N) else 0
theorem cvN_le {C N B c n : Nat} (hc : c ≤ 16) (hn : n ≤ 16) : cvN C N B c n ≤ 4294967296 := by
  unfold cvN
  split
  · have h := gd_le (c + n) c n (B + C + n - c - N)
    have h2 : 2 ^ (c + n) ≤ 2 ^ 32 := Nat.pow_le_pow_right (by omega) (by omega)
    have h3 : (2 : Nat) ^ 32 = 4294967296 := by decide
    omega
  · omega
theorem cvN_neg {C N B c n : Nat} (h : ¬ N + c ≤ B + C + n) : cvN C N B c n = 0 := by unfold cvN; rw [if_neg h]
theorem cvN_zero {C N B : Nat} (h : N ≤ B + C) : cvN C N B 0 0 = 1 := by unfold cvN; rw [if_pos (by omega)]; rfl
theorem cvN_both {C N B c n : Nat} (h : N + c ≤ B + C + n) (hc : 0 < c) (hn : 0 < n) (ht : N + c < B + C + n) : cvN C N B c n = cvN C N B (c - 1) n + cvN C N B c (n - 1) := by
  unfold cvN
  rw [if_pos h, if_pos (by omega), if_pos (by omega), gd_step (by omega), if_pos hc, if_pos ⟨hn, by omega⟩]
  congr 2 <;> omega
theorem cvN_coin {C N B c n : Nat} (h : N + c ≤ B + C + n) (hc : 0 < c) (hn : ¬ (0 < n ∧ N + c < B + C + n)) : cvN C N B c n = cvN C N B (c - 1) n := by
  unfold cvN
  rw [if_pos h, if_pos (by omega), gd_step (by omega), if_pos hc, if_neg (by omega), Nat.add_zero]
  congr 1; omega
theorem cvN_note {C N B n : Nat} (h : N ≤ B + C + n) (hn : 0 < n) (ht : N < B + C + n) : cvN C N B 0 n = cvN C N B 0 (n - 1) := by
  unfold cvN
  rw [if_pos (by omega), if_pos (by omega), gd_step (by omega), if_neg (by omega), if_pos ⟨hn, by omega⟩, Nat.zero_add]
  congr 1; omega
theorem cvN_none {C N B n : Nat} (h : N ≤ B + C + n) (hn : 0 < n) (ht : ¬ N < B + C + n) : cvN C N B 0 n = 0 := by
  unfold cvN
  rw [if_pos (by omega), gd_step (by omega), if_neg (by omega), if_neg (by omega)]
theorem cvN_top (C N B : Nat) : cvN C N B C N = gdN (C + N) C N B := by
  unfold cvN
  rw [if_pos (by omega)]
  congr 1; omega
def tabA (f : Nat → Nat) : Array Value := ((List.range 289).map fun j => Value.int .i64 (f j : Nat)).toArray
theorem tabA_at {f : Nat → Nat} {j : Nat} (h : j < 289) : (tabA f)[j]? = some (.int .i64 (f j : Nat)) := by
  unfold tabA
  rw [List.getElem?_toArray, List.getElem?_map, List.getElem?_range h]; rfl
theorem tabA_set (f : Nat → Nat) (j v : Nat) : (tabA f).setIfInBounds j (.int .i64 (v : Nat)) = tabA fun i => if i = j then v else f i := by
  unfold tabA
  apply Array.ext'
  rw [List.setIfInBounds_toArray]
  apply List.ext_getElem?
  intro i
  rw [List.getElem?_set, List.length_map, List.length_range]
  simp only [List.getElem?_map]
  by_cases hi : i < 289
  · rw [List.getElem?_range hi]
    by_cases hij : j = i
    · subst hij
      simp [hi]
    · rw [if_neg hij]
      simp [show ¬ i = j from fun h => hij h.symm]
  · rw [List.getElem?_eq_none (l := List.range 289) (by simp; omega)]
    split
    · rename_i h; subst h; simp [hi]
    · rfl
theorem zero_tab (w : World) : (zeroValue 92).run Tryd.prog w = .ok (.agg (tabA fun _ => 0)) w := by
  have e : Tryd.zeroCells92 = tabA fun _ => 0 := by kernel_rfl
  rw [Tryd.zeroValue92, e]
/-- how far the table is filled -/
def filled (C N B c n : Nat) (f : Nat → Nat) : Prop := ∀ c' n', c' ≤ 16 → n' ≤ 16 → f (c' * 17 + n') = if (c' < c ∧ n' ≤ N) ∨ (c' = c ∧ n' < n) then cvN C N B c' n' else 0
theorem filled_next {C N B c n : Nat} {f : Nat → Nat} (h : filled C N B c n f) (hc : c ≤ 16) (hn : n ≤ 16) {v : Nat} (hv : v = cvN C N B c n) : filled C N B c (n + 1) (fun i => if i = c * 17 + n then v else f i) := by
  intro c' n' h1 h2
  by_cases he : c' * 17 + n' = c * 17 + n
  · obtain ⟨rfl, rfl⟩ : c' = c ∧ n' = n := by omega
    simp [hv]
  · have := h c' n' h1 h2
    simp only [he, if_false]
    rw [this]
    have hne : ¬ (c' = c ∧ n' = n) := fun h => he (by rw [h.1, h.2])
    by_cases hq : (c' < c ∧ n' ≤ N) ∨ (c' = c ∧ n' < n)
    · rw [if_pos hq, if_pos (by omega)]
    · rw [if_neg hq, if_neg (by omega)]
theorem filled_skip {C N B c n : Nat} {f : Nat → Nat} (h : filled C N B c n f) (hc : c ≤ 16) (hn : n ≤ 16) (hv : cvN C N B c n = 0) : filled C N B c (n + 1) f := by
  have h2 := filled_next h hc hn hv.symm
  have e : (fun i => if i = c * 17 + n then 0 else f i) = f := by
    funext i
    split
    · rename_i hi
      rw [hi, h c n hc hn, if_neg (by omega)]
    · rfl
  rwa [e] at h2
theorem filled_row {C N B c : Nat} {f : Nat → Nat} (h : filled C N B c (N + 1) f) : filled C N B (c + 1) 0 f := by
  intro c' n' h1 h2
  rw [h c' n' h1 h2]
  by_cases hq : (c' < c ∧ n' ≤ N) ∨ (c' = c ∧ n' < N + 1)
  · rw [if_pos hq, if_pos (by omega)]
  · rw [if_neg hq, if_neg (by omega)]
theorem upd_upd (f : Nat → Nat) (j a b : Nat) : (fun i => if i = j then b else (if i = j then a else f i)) = fun i => if i = j then b else f i := by
  funext i
  split <;> rfl
set_option maxRecDepth 100000 in
set_option maxHeartbeats 4000000 in
theorem rcount_any (C N B : Nat) (hC : C ≤ 16) (hN : N ≤ 16) (hB : B ≤ 1000) (w : World) : Calls Tryd.prog 57 #[.int .i64 C, .int .i64 N, .int .i64 B] w fun e w' => e = .returned (.int .i64 (gdN (C + N) C N B : Nat)) ∧ Below w.heap.size w w' := by
  go_enter Tryd.func57, Tryd.ntmps57
  go_wp2_with (first
    | (with_reducible show wpList _ _ _ (⟨_, .alloc 92, _, _, _, _⟩ :: _) _ _
       refine wpList_alloc_blk rfl 92 rfl _ zero_tab ?_
       intro w1 g hG1 hgr1 hge1
       have hb1 : Below w.heap.size w w1 := below_none (Below.refl _ _) hgr1 (Nat.le_refl _)
       clear hgr1))
  go_loopw [8, 9, 10] (fun v u t wr => ∃ (c : Nat) (f : Nat → Nat), c ≤ C + 1 ∧ v = .int .i64 c ∧ Blk wr g 92 (tabA f) ∧ Hid (filled C N B c 0 f) ∧ Below w.heap.size w wr) (fun v _ _ _ => C + 1 - (intOf v).toNat)
  case atStart => exact ⟨0, fun _ => 0, by omega, rfl, hG1, Lib.hid (fun c' n' _ _ => by rw [if_neg (by omega)]), hb1⟩
  case round =>
    obtain ⟨c, f, hc, rfl, hG, hF, hbe⟩ := hrel
    obtain ⟨wa, rfl⟩ : ∃ x, x = wr := ⟨wr, rfl⟩
    by_cases hcC : c ≤ C
    · have hcCi : (c : Int) ≤ C := by omega
      go_wp2_with (fail)
      go_loopw [9, 10] (fun u t wr => ∃ (n : Nat) (f : Nat → Nat), n ≤ N + 1 ∧ u = .int .i64 n ∧ Blk wr g 92 (tabA f) ∧ Hid (filled C N B c n f) ∧ Below w.heap.size w wr) (fun u _ _ => N + 1 - (intOf u).toNat)
      case atStart => exact ⟨0, f, by omega, rfl, hG, hF, hbe⟩
      case round =>
        clear hG hF hbe
        obtain ⟨n, f, hn, rfl, hG, hF, hbe⟩ := hrel
        obtain ⟨wb, rfl⟩ : ∃ x, x = wr := ⟨wr, rfl⟩
        by_cases hnN : n ≤ N
        · have hnNi : (n : Int) ≤ N := by omega
          have hfz := hG.frozen (c * 17 + n)
          have hc0 : wb.cell? ⟨g, c * 17 + n, none⟩ = some (.int .i64 0) := by
            rw [hG.cell, tabA_at (by omega), hF.out c n (by omega) (by omega), if_neg (by omega)]; rfl
          obtain ⟨t, ht⟩ : ∃ t : Int, (B : Int) + C - c - N + n = t := ⟨_, rfl⟩
          have hti : -100 ≤ t ∧ t ≤ 2000 := by omega
          have hc17 : (c : Int) < 17 := by omega
          have hn17 : (n : Int) < 17 := by omega
          by_cases htn : t < 0
          · have hN := Lib.hid (filled_skip hF.out (by omega) (by omega) (cvN_neg (by omega)))
            go_wp2_with (fail)
            go_roundw
            case rel => exact ⟨n + 1, f, by omega, by go_num, hG, hN, hbe⟩
            case measure => simp only [intOf]; omega
          · have htd : decide (t < 0) = false := decide_eq_false htn
            by_cases hcz : c = 0
            · have hcb : ((c : Int) == 0) = true := by simp; omega
              have hcg : ¬ (0 : Int) < c := by omega
              by_cases hnz : n = 0
              · have hnb : ((n : Int) == 0) = true := by simp; omega
                have hng : ¬ (0 : Int) < n := by omega
                have hngd : decide ((0 : Int) < n) = false := decide_eq_false hng
                have hN := Lib.hid (filled_next (v := 1) hF.out (by omega) (by omega) (by rw [hcz, hnz, cvN_zero (by omega)]))
                have hG2 := hG.set_ (c * 17 + n) (.int .i64 ((1 : Nat) : Int))
                rw [tabA_set] at hG2
                have hbe2 := hbe.setCell (p := ⟨g, c * 17 + n, none⟩) hge1 (.int .i64 ((1 : Nat) : Int))
                clear hcz hnz
                go_wp2_with (fail)
                go_roundw
                case rel => exact ⟨n + 1, _, by omega, by go_num, hG2, hN, hbe2⟩
                case measure => simp only [intOf]; omega
              · have hnb : ((n : Int) == 0) = false := by simp; omega
                have hng : (0 : Int) < n := by omega
                by_cases ht0 : 0 < t
                · obtain ⟨n1, hn1⟩ : ∃ n1 : Nat, (n : Int) - 1 = n1 := ⟨n - 1, by omega⟩
                  have hn1w : IntKind.i64.wrap (n1 : Int) = n1 := by rw [IntKind.wrap_i64]; omega
                  obtain ⟨Z, hZ⟩ : ∃ Z, cvN C N B c (n - 1) = Z := ⟨_, rfl⟩
                  have hZb : Z ≤ 4294967296 := by rw [← hZ]; exact cvN_le (by omega) (by omega)
                  have hyZ : wb.cell? ⟨g, c * 17 + n1, none⟩ = some (.int .i64 (Z : Nat)) := by
                    rw [hG.cell, tabA_at (by omega), hF.out c n1 (by omega) (by omega), if_pos (by omega), show n1 = n - 1 by omega, hZ]
                  have hN := Lib.hid (filled_next (v := Z) hF.out (by omega) (by omega) (by rw [← hZ, hcz]; exact (cvN_note (by omega) (by omega) (by omega)).symm))
                  have hG2 := (hG.set_ (c * 17 + n) (.int .i64 (Z : Nat))).drew
                  rw [tabA_set] at hG2
                  have hbe2 := (hbe.setCell (p := ⟨g, c * 17 + n, none⟩) hge1 (.int .i64 (Z : Nat))).drew
                  have hZw : IntKind.i64.wrap (Z : Int) = Z := by rw [IntKind.wrap_i64]; omega
                  have hn117 : (n1 : Int) < 17 := by omega
                  clear hcz hnz hZ
                  go_wp2_with (fail)
                  go_region
                  go_wp2_with (fail)
                  go_roundw
                  case rel => exact ⟨n + 1, _, by omega, by go_num, hG2, hN, hbe2⟩
                  case measure => simp only [intOf]; omega
                · have htd0 : decide (0 < t) = false := decide_eq_false ht0
                  have hN := Lib.hid (filled_skip hF.out (by omega) (by omega) (by rw [hcz]; exact cvN_none (by omega) (by omega) (by omega)))
                  clear hcz hnz
                  go_wp2_with (fail)
                  go_roundw
                  case rel => exact ⟨n + 1, f, by omega, by go_num, hG, hN, hbe⟩
                  case measure => simp only [intOf]; omega
            · have hcb : ((c : Int) == 0) = false := by simp; omega
              have hcg : (0 : Int) < c := by omega
              obtain ⟨c1, hc1⟩ : ∃ c1 : Nat, (c : Int) - 1 = c1 := ⟨c - 1, by omega⟩
              have hc1w : IntKind.i64.wrap (c1 : Int) = c1 := by rw [IntKind.wrap_i64]; omega
              obtain ⟨Y, hY⟩ : ∃ Y, cvN C N B (c - 1) n = Y := ⟨_, rfl⟩
              have hYb : Y ≤ 4294967296 := by rw [← hY]; exact cvN_le (by omega) (by omega)
              have hyY : wb.cell? ⟨g, c1 * 17 + n, none⟩ = some (.int .i64 (Y : Nat)) := by
                rw [hG.cell, tabA_at (by omega), hF.out c1 n (by omega) (by omega), if_pos (by omega), show c1 = c - 1 by omega, hY]
              have hYw : IntKind.i64.wrap (Y : Int) = Y := by rw [IntKind.wrap_i64]; omega
              have hG2 := (hG.set_ (c * 17 + n) (.int .i64 (Y : Nat))).drew
              rw [tabA_set] at hG2
              have hbe2 := (hbe.setCell (p := ⟨g, c * 17 + n, none⟩) hge1 (.int .i64 (Y : Nat))).drew
              have hc117 : (c1 : Int) < 17 := by omega
              by_cases hb2 : 0 < n ∧ 0 < t
              · obtain ⟨hn0, ht0⟩ := hb2
                have hng : (0 : Int) < n := by omega
                obtain ⟨n1, hn1⟩ : ∃ n1 : Nat, (n : Int) - 1 = n1 := ⟨n - 1, by omega⟩
                have hn1w : IntKind.i64.wrap (n1 : Int) = n1 := by rw [IntKind.wrap_i64]; omega
                obtain ⟨Z, hZ⟩ : ∃ Z, cvN C N B c (n - 1) = Z := ⟨_, rfl⟩
                have hZb : Z ≤ 4294967296 := by rw [← hZ]; exact cvN_le (by omega) (by omega)
                obtain ⟨V, hV⟩ : ∃ V : Nat, (Y : Int) + Z = V := ⟨Y + Z, by omega⟩
                have hVw : IntKind.i64.wrap (V : Int) = V := by rw [IntKind.wrap_i64]; omega
                have hN := Lib.hid (show filled C N B c (n + 1) (fun i => if i = c * 17 + n then V else f i) from filled_next (v := V) hF.out (by omega) (by omega) (by rw [cvN_both (by omega) (by omega) (by omega) (by omega), hY, hZ]; omega))
                have hyZ := hG2.cell (c * 17 + n1)
                rw [tabA_at (by omega), if_neg (by omega), hF.out c n1 (by omega) (by omega), if_pos (by omega), show n1 = n - 1 by omega, hZ, show n - 1 = n1 by omega] at hyZ
                have hyV := hG2.cell (c * 17 + n)
                rw [tabA_at (by omega), if_pos rfl] at hyV
                have hfz2 := hG2.frozen (c * 17 + n)
                have hn117 : (n1 : Int) < 17 := by omega
                clear hcz hZ hY
                go_wp2_with (fail)
                go_region
                generalize (wb.setCell ⟨g, c * 17 + n, none⟩ (.int .i64 (Y : Nat))).drew = w5 at hG2 hbe2 hyZ hyV hfz2 ⊢
                have hG3 := (hG2.set_ (c * 17 + n) (.int .i64 (V : Nat))).drew
                rw [tabA_set, upd_upd] at hG3
                have hbe3 := (hbe2.setCell (p := ⟨g, c * 17 + n, none⟩) hge1 (.int .i64 (V : Nat))).drew
                clear hfz hc0 hyY
                go_wp2_with (fail)
                go_region
                go_wp2_with (fail)
                go_roundw
                case rel => exact ⟨n + 1, _, by omega, by go_num, hG3, hN, hbe3⟩
                case measure => simp only [intOf]; omega
              · have hN := Lib.hid (show filled C N B c (n + 1) (fun i => if i = c * 17 + n then Y else f i) from filled_next (v := Y) hF.out (by omega) (by omega) (by rw [cvN_coin (by omega) (by omega) (by omega), hY]))
                clear hY
                by_cases hn0 : 0 < n
                · have hng : (0 : Int) < n := by omega
                  have ht0 : ¬ 0 < t := fun h => hb2 ⟨hn0, h⟩
                  have htd0 : decide (0 < t) = false := decide_eq_false ht0
                  clear hb2 hcz
                  go_wp2_with (fail)
                  go_region
                  go_wp2_with (fail)
                  go_roundw
                  case rel => exact ⟨n + 1, _, by omega, by go_num, hG2, hN, hbe2⟩
                  case measure => simp only [intOf]; omega
                · have hng : ¬ (0 : Int) < n := by omega
                  have hngd : decide ((0 : Int) < n) = false := decide_eq_false hng
                  clear hb2 hcz
                  go_wp2_with (fail)
                  go_region
                  go_wp2_with (fail)
                  go_roundw
                  case rel => exact ⟨n + 1, _, by omega, by go_num, hG2, hN, hbe2⟩
                  case measure => simp only [intOf]; omega
        · have hnNi : ¬ (n : Int) ≤ N := by omega
          obtain rfl : n = N + 1 := by omega
          have hN := Lib.hid (filled_row hF.out)
          go_wp2_with (fail)
          go_roundw
          case rel => exact ⟨c + 1, f, by omega, by go_num, hG, hN, hbe⟩
          case measure => simp only [intOf]; omega
    · have hcCi : ¬ (c : Int) ≤ C := by omega
      have hcell : wa.cell? ⟨g, C * 17 + N, none⟩ = some (.int .i64 (gdN (C + N) C N B : Nat)) := by
        rw [hG.cell, tabA_at (by omega), hF.out C N hC hN, if_pos (by omega), cvN_top]
      have hC17 : (C : Int) < 17 := by omega
      have hN17 : (N : Int) < 17 := by omega
      go_wp2_with (fail)
      go_ret
      exact ⟨rfl, hbe⟩
end Go.Proofs.YtfcfhiekkpflcaaDoor
