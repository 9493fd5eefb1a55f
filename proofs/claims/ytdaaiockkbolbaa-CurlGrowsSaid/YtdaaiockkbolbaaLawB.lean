/- The law's functions that stand beside the reference: CurlRules, CurlGrows. (Printed by genlawb.py.) -/
import Derived.Test.YtdaaiockkbolbaaWorks
import Derived.Deep.RegionHeld3
namespace Go.Proofs.Ytdaaiockkbolbaa
open Go.RowKit
/-- whether a rule is much larger than it may be -/
def greatB (ws : List ByteArray) : Bool := decide (20 < ws.length) || ws.any fun t => decide (60 < t.size)
theorem great_hit {ws : List ByteArray} {i : Nat} {t : ByteArray} (h : ws[i]? = some t) (ht : 60 < t.size) : greatB ws = true := by
  rw [greatB, Bool.or_eq_true]
  exact Or.inr (List.any_eq_true.2 ⟨t, List.mem_of_getElem? h, by simpa using ht⟩)
theorem great_no {ws : List ByteArray} (h0 : ¬ 20 < ws.length) (h : ∀ t ∈ ws, ¬ 60 < t.size) : greatB ws = false := by
  rw [greatB, decide_eq_false h0, Bool.false_or, Bool.eq_false_iff]
  intro ha
  obtain ⟨t, ht, h2⟩ := List.any_eq_true.1 ha
  exact h t ht (by simpa using h2)
set_option maxRecDepth 100000 in
set_option maxHeartbeats 4000000 in
theorem great_any (A : Option Addr) (n c : Nat) (ws : List ByteArray) (w : World) (B : Nat) (hB : B ≤ w.heap.size) (hr : RStrs w B A n ws) :
    Calls Try.prog 25 #[.agg #[.slice A n c]] w fun e w' => e = .returned (.bool (greatB ws)) ∧ Below w.heap.size w w' := by
  have hlen := hr.len
  by_cases h20 : 20 < n
  · have hR := Lib.hid (show greatB ws = true by rw [greatB, decide_eq_true (by omega)]; rfl)
    have h20i : (20 : Int) < n := by omega
    go_enter Try.func25, Try.ntmps25
    go_wp2_with (first
      | (with_reducible show wpList _ _ _ (⟨_, .box 38 _, _, _, _, _⟩ :: _) _ _
         refine wpList_box_blk rfl 38 _ rfl #[.slice A n c] rfl ?_
         intro w1 g hG hgr hge
         have hk := Rk.box hB hr hG hgr
         have cg := hk.cell
         have hg := hk.bk.lt
         have hRB := hk.b
         clear hG hgr hge))
    go_ret
    exact ⟨by rw [hR.out]; rfl, hk.be⟩
  · have h20i : ¬ (20 : Int) < n := by omega
    have hlenH := Lib.hid hlen
    clear hlen
    go_enter Try.func25, Try.ntmps25
    go_wp2_with (first
      | (with_reducible show wpList _ _ _ (⟨_, .box 38 _, _, _, _, _⟩ :: _) _ _
         refine wpList_box_blk rfl 38 _ rfl #[.slice A n c] rfl ?_
         intro w1 g hG hgr hge
         have hk := Rk.box hB hr hG hgr
         have cg := hk.cell
         have hg := hk.bk.lt
         have hRB := hk.b
         clear hG hgr hge))
    go_loopw [3] (fun v wr => ∃ i : Nat, i ≤ n ∧ v = .int .i64 i ∧ Hid (∀ t ∈ ws.take i, ¬ 60 < t.size) ∧ w1 = wr) (fun v _ => n - (intOf v).toNat)
    case atStart => exact ⟨0, by omega, rfl, Lib.hid (fun t ht => by simp at ht), rfl⟩
    case round =>
      obtain ⟨i, hin, rfl, hno, rfl⟩ := hrel
      by_cases hlt : i < n
      · have hlti : (i : Int) < n := by omega
        obtain ⟨ad, t, rfl, hadb, hcell, hwt⟩ := hk.rs.at_ hlt
        obtain ⟨z, hz⟩ : ∃ z, t.size = z := ⟨_, rfl⟩
        by_cases h6 : 60 < z
        · have hR := Lib.hid (great_hit hwt.out (by rw [hz]; exact h6))
          have h6i : (60 : Int) < z := by omega
          go_wp2_with (fail)
          go_ret
          exact ⟨by rw [hR.out]; rfl, hk.be⟩
        · have h6i : ¬ (60 : Int) < z := by omega
          have hN := Lib.hid (show ∀ u ∈ ws.take (i + 1), ¬ 60 < u.size by
            intro u hu
            rw [List.take_add_one, hwt.out, List.mem_append] at hu
            rcases hu with hu | hu
            · exact hno.out u hu
            · simp at hu; subst hu; rw [hz]; exact h6)
          go_wp2_with (fail)
          go_roundw
          case rel => exact ⟨i + 1, by omega, by go_num, hN, by first | rfl | trivial⟩
          case measure => simp only [intOf]; omega
      · have hlti : ¬ (i : Int) < n := by omega
        have hR := Lib.hid (great_no (ws := ws) (by rw [hlenH.out]; exact h20) (fun t ht => hno.out t (by rw [List.take_of_length_le (by rw [hlenH.out]; omega)]; exact ht)))
        go_wp2_with (fail)
        go_ret
        exact ⟨by rw [hR.out]; rfl, hk.be⟩
theorem zero_ruleR (w : World) : (zeroValue 40).run Try.prog w = .ok (.agg #[.slice none 0 0]) w := Try.zeroValue40 w
set_option maxRecDepth 100000 in
set_option maxHeartbeats 4000000 in
theorem grows_law (A : Option Addr) (n c : Nat) (ws : List ByteArray) (l : Int) (s : ByteArray) (w : World) (hr : RStrs w w.heap.size A n ws) :
    Calls Try.prog 6 #[.agg #[.slice A n c], .int .i64 l, .string s] w fun e w' => e = .returned (.bool true) ∧ Below w.heap.size w w' := by
  obtain ⟨B, hBe⟩ : ∃ B, w.heap.size = B := ⟨_, rfl⟩
  have hB : B ≤ w.heap.size := by omega
  rw [hBe] at hr
  clear hBe
  obtain ⟨GV, hGV⟩ : ∃ GV, growV ws l = GV := ⟨_, rfl⟩
  obtain ⟨GE, hGE⟩ : ∃ GE, growE ws l = GE := ⟨_, rfl⟩
  obtain ⟨BV, hBV⟩ : ∃ BV, backV ws (bts s) = BV := ⟨_, rfl⟩
  obtain ⟨BE, hBE⟩ : ∃ BE, backE ws (bts s) = BE := ⟨_, rfl⟩
  replace hGV := Lib.hid hGV
  replace hGE := Lib.hid hGE
  replace hBV := Lib.hid hBV
  replace hBE := Lib.hid hBE
  by_cases hg1 : greatB ws = true
  · have hgH := Lib.hid hg1
    clear hg1
    go_enter Try.func6, Try.ntmps6
    go_wp2_with (first
      | (with_reducible show wpList _ _ _ (⟨_, .box 38 _, _, _, _, _⟩ :: _) _ _
         refine wpList_box_blk rfl 38 _ rfl #[.slice A n c] rfl ?_
         intro w1 g hG hgr hge
         have hk := Rk.box hB hr hG hgr
         have cg := hk.cell
         have hg := hk.bk.lt
         have hRB := hk.b
         clear hG hgr hge)
      | (with_reducible show wpList _ _ _ (⟨_, .load 38 _, _, _, _, _⟩ :: _) _ _
         refine wpList_load_blk rfl 38 _ rfl g rfl 38 #[.slice A n c] _ hk.bk Try.underlying38 rfl (info_oneP _) ?_)
      | (go_at_call 25; refine (great_any A n c ws _ B hRB hk.rs).mono ?_; rintro e w' ⟨rfl, hb'⟩; rw [hgH.out]
         replace hk := hk.call hb'
         have cg := hk.cell
         have hRB := hk.b
         have hglt := hk.bk.lt
         have hws := hk.be.size
         clear hb')
      | (go_at_call 12; refine (works_any _).mono ?_; rintro e w' ⟨rfl, hb'⟩
         replace hk := hk.call hb'
         have cg := hk.cell
         have hRB := hk.b
         clear hb'))
    go_ret
    exact ⟨rfl, hk.be⟩
  · have hgH := Lib.hid (show greatB ws = false by simpa using hg1)
    clear hg1
    by_cases h1 : 1000 < s.size
    · have h1i : (1000 : Int) < s.size := by omega
      go_enter Try.func6, Try.ntmps6
      go_wp2_with (first
        | (with_reducible show wpList _ _ _ (⟨_, .box 38 _, _, _, _, _⟩ :: _) _ _
           refine wpList_box_blk rfl 38 _ rfl #[.slice A n c] rfl ?_
           intro w1 g hG hgr hge
           have hk := Rk.box hB hr hG hgr
           have cg := hk.cell
           have hg := hk.bk.lt
           have hRB := hk.b
           clear hG hgr hge)
        | (with_reducible show wpList _ _ _ (⟨_, .load 38 _, _, _, _, _⟩ :: _) _ _
           refine wpList_load_blk rfl 38 _ rfl g rfl 38 #[.slice A n c] _ hk.bk Try.underlying38 rfl (info_oneP _) ?_)
        | (go_at_call 25; refine (great_any A n c ws _ B hRB hk.rs).mono ?_; rintro e w' ⟨rfl, hb'⟩; rw [hgH.out]
           replace hk := hk.call hb'
           have cg := hk.cell
           have hRB := hk.b
           have hglt := hk.bk.lt
           have hws := hk.be.size
           clear hb')
        | (go_at_call 12; refine (works_any _).mono ?_; rintro e w' ⟨rfl, hb'⟩
           replace hk := hk.call hb'
           have cg := hk.cell
           have hRB := hk.b
           clear hb'))
      go_ret
      exact ⟨rfl, hk.be⟩
    · have h1i : ¬ (1000 : Int) < s.size := by omega
      go_enter Try.func6, Try.ntmps6
      go_wp2_with (first
        | (with_reducible show wpList _ _ _ (⟨_, .box 38 _, _, _, _, _⟩ :: _) _ _
           refine wpList_box_blk rfl 38 _ rfl #[.slice A n c] rfl ?_
           intro w1 g hG hgr hge
           have hk := Rk.box hB hr hG hgr
           have cg := hk.cell
           have hg := hk.bk.lt
           have hRB := hk.b
           clear hG hgr hge)
        | (go_at_call 25; refine (great_any A n c ws _ B hRB hk.rs).mono ?_; rintro e w' ⟨rfl, hb'⟩; rw [hgH.out]
           replace hk := hk.call hb'
           have cg := hk.cell
           have hRB := hk.b
           have hglt := hk.bk.lt
           have hws := hk.be.size
           clear hb')
        | (with_reducible show wpList _ _ _ (⟨_, .alloc 40, _, _, _, _⟩ :: _) _ _
           refine wpList_alloc_blk rfl 40 rfl _ zero_ruleR ?_
           intro w2 g2 hG2 hgr2 hge2
           have hb2 : Below _ _ w2 := below_none (Below.refl _ _) hgr2 (Nat.le_refl _)
           replace hk := hk.call hb2
           have hgg : g ≠ g2 := by have := hglt; omega
           have hw2 : w.heap.size ≤ g2 := by have := hws; omega
           clear hgr2 hge2 hb2)
        | (with_reducible show wpList _ _ _ (⟨_, .store 40 (.tmp 7) _, _, _, _, _⟩ :: _) _ _
           refine wpList_store_blk rfl 40 _ _ rfl g2 #[.slice A n c] rfl rfl 40 #[.slice none 0 0] hG2 (info_oneR _) rfl (by simp [Value.oneCell']) ?_
           intro w3 hG3 hgr3
           have ho : Rk 40 w w3 g2 A n c ws B := ⟨below_some hk.be hgr3 hk.be.size hw2, hk.rs.below (below_some (Below.refl _ _) hgr3 hk.b (by have := hk.bl; omega)), hG3, hk.bl⟩
           replace hk : Rk 38 w w3 g A n c ws B := ⟨ho.be, ho.rs, hk.bk.some_ hgr3 hgg, hk.bl⟩
           have cg := hk.cell
           have co := ho.cell
           have hRB := hk.b
           clear hG2 hgr3)
        | (with_reducible show wpList _ _ _ (⟨_, .load 38 _, _, _, _, _⟩ :: _) _ _
           refine wpList_load_blk rfl 38 _ rfl g rfl 38 #[.slice A n c] _ hk.bk Try.underlying38 rfl (info_oneP _) ?_)
        | (with_reducible show wpList _ _ _ (⟨_, .load 40 _, _, _, _, _⟩ :: _) _ _
           refine wpList_load_blk rfl 40 _ rfl g2 rfl 40 #[.slice A n c] _ ho.bk Try.underlying40 rfl (info_oneR _) ?_)
        | (go_at_call 36; refine (Grow_any A n c ws l _ B hRB hk.rs).mono ?_; rintro e w' ⟨rfl, hb'⟩; rw [hGV.out, hGE.out]
           replace hk := hk.call hb'
           replace ho := ho.call hb'
           have cg := hk.cell
           have co := ho.cell
           have hRB := hk.b
           clear hb')
        | (go_at_call 37; refine (refGrow_any A n c ws l _ B hRB hk.rs).mono ?_; rintro e w' ⟨rfl, hb'⟩; rw [hGV.out, hGE.out]
           replace hk := hk.call hb'
           replace ho := ho.call hb'
           have cg := hk.cell
           have co := ho.cell
           have hRB := hk.b
           clear hb')
        | (go_at_call 38; refine (Back_any A n c ws s _ B hRB hk.rs).mono ?_; rintro e w' ⟨rfl, hb'⟩; rw [hBV.out, hBE.out]
           replace hk := hk.call hb'
           replace ho := ho.call hb'
           have cg := hk.cell
           have co := ho.cell
           have hRB := hk.b
           clear hb')
        | (go_at_call 39; refine (refBack_any A n c ws s _ B hRB hk.rs).mono ?_; rintro e w' ⟨rfl, hb'⟩; rw [hBV.out, hBE.out]
           replace hk := hk.call hb'
           replace ho := ho.call hb'
           have cg := hk.cell
           have co := ho.cell
           have hRB := hk.b
           clear hb')
        | (go_at_call 12; refine (works_any _).mono ?_; rintro e w' ⟨rfl, hb'⟩
           replace hk := hk.call hb'
           have cg := hk.cell
           have hRB := hk.b
           clear hb'))
      go_ret
      exact ⟨rfl, hk.be⟩
/- what the region of CurlRules loads -/
set_option maxRecDepth 100000 in
set_option maxHeartbeats 4000000 in
theorem rules_law (A : Option Addr) (n c : Nat) (ws : List ByteArray) (s : ByteArray) (w : World) (hr : RStrs w w.heap.size A n ws) :
    Calls Try.prog 5 #[.agg #[.slice A n c], .string s] w fun e w' => e = .returned (.bool true) ∧ Below w.heap.size w w' := by
  obtain ⟨B, hBe⟩ : ∃ B, w.heap.size = B := ⟨_, rfl⟩
  have hB : B ≤ w.heap.size := by omega
  rw [hBe] at hr
  clear hBe
  obtain ⟨PV, hPV⟩ : ∃ PV, putV ws (bts s) = PV := ⟨_, rfl⟩
  obtain ⟨FE, hFE⟩ : ∃ FE, fitE ws (bts s) = FE := ⟨_, rfl⟩
  obtain ⟨KV, hKV⟩ : ∃ KV, keepV ws = KV := ⟨_, rfl⟩
  obtain ⟨RE, hRE⟩ : ∃ RE, ruleE ws = RE := ⟨_, rfl⟩
  obtain ⟨AV, hAV⟩ : ∃ AV, agV ws = AV := ⟨_, rfl⟩
  obtain ⟨AE, hAE⟩ : ∃ AE, agE ws = AE := ⟨_, rfl⟩
  obtain ⟨PE, hPE⟩ : ∃ PE, prE ws (bts s) = PE := ⟨_, rfl⟩
  replace hPV := Lib.hid hPV
  replace hFE := Lib.hid hFE
  replace hKV := Lib.hid hKV
  replace hRE := Lib.hid hRE
  replace hAV := Lib.hid hAV
  replace hAE := Lib.hid hAE
  replace hPE := Lib.hid hPE
  by_cases hg1 : greatB ws = true
  · have hgH := Lib.hid hg1
    clear hg1
    go_enter Try.func5, Try.ntmps5
    go_wp2_with (first
      | (with_reducible show wpList _ _ _ (⟨_, .box 38 _, _, _, _, _⟩ :: _) _ _
         refine wpList_box_blk rfl 38 _ rfl #[.slice A n c] rfl ?_
         intro w1 g hG hgr hge
         have hk := Rk.box hB hr hG hgr
         have cg := hk.cell
         have hg := hk.bk.lt
         have hRB := hk.b
         clear hG hgr hge)
      | (with_reducible show wpList _ _ _ (⟨_, .load 38 _, _, _, _, _⟩ :: _) _ _
         refine wpList_load_blk rfl 38 _ rfl g rfl 38 #[.slice A n c] _ hk.bk Try.underlying38 rfl (info_oneP _) ?_)
      | (go_at_call 25; refine (great_any A n c ws _ B hRB hk.rs).mono ?_; rintro e w' ⟨rfl, hb'⟩; rw [hgH.out]
         replace hk := hk.call hb'
         have cg := hk.cell
         have hRB := hk.b
         have hglt := hk.bk.lt
         have hws := hk.be.size
         clear hb')
      | (go_at_call 12; refine (works_any _).mono ?_; rintro e w' ⟨rfl, hb'⟩
         replace hk := hk.call hb'
         have cg := hk.cell
         have hRB := hk.b
         clear hb'))
    go_ret
    exact ⟨rfl, hk.be⟩
  · have hgH := Lib.hid (show greatB ws = false by simpa using hg1)
    clear hg1
    by_cases h1 : 1000 < s.size
    · have h1i : (1000 : Int) < s.size := by omega
      go_enter Try.func5, Try.ntmps5
      go_wp2_with (first
        | (with_reducible show wpList _ _ _ (⟨_, .box 38 _, _, _, _, _⟩ :: _) _ _
           refine wpList_box_blk rfl 38 _ rfl #[.slice A n c] rfl ?_
           intro w1 g hG hgr hge
           have hk := Rk.box hB hr hG hgr
           have cg := hk.cell
           have hg := hk.bk.lt
           have hRB := hk.b
           clear hG hgr hge)
        | (with_reducible show wpList _ _ _ (⟨_, .load 38 _, _, _, _, _⟩ :: _) _ _
           refine wpList_load_blk rfl 38 _ rfl g rfl 38 #[.slice A n c] _ hk.bk Try.underlying38 rfl (info_oneP _) ?_)
        | (go_at_call 25; refine (great_any A n c ws _ B hRB hk.rs).mono ?_; rintro e w' ⟨rfl, hb'⟩; rw [hgH.out]
           replace hk := hk.call hb'
           have cg := hk.cell
           have hRB := hk.b
           have hglt := hk.bk.lt
           have hws := hk.be.size
           clear hb')
        | (go_at_call 12; refine (works_any _).mono ?_; rintro e w' ⟨rfl, hb'⟩
           replace hk := hk.call hb'
           have cg := hk.cell
           have hRB := hk.b
           clear hb'))
      go_ret
      exact ⟨rfl, hk.be⟩
    · have h1i : ¬ (1000 : Int) < s.size := by omega
      go_enter Try.func5, Try.ntmps5
      go_wp2_with (first
        | (with_reducible show wpList _ _ _ (⟨_, .box 38 _, _, _, _, _⟩ :: _) _ _
           refine wpList_box_blk rfl 38 _ rfl #[.slice A n c] rfl ?_
           intro w1 g hG hgr hge
           have hk := Rk.box hB hr hG hgr
           have cg := hk.cell
           have hg := hk.bk.lt
           have hRB := hk.b
           clear hG hgr hge)
        | (go_at_call 25; refine (great_any A n c ws _ B hRB hk.rs).mono ?_; rintro e w' ⟨rfl, hb'⟩; rw [hgH.out]
           replace hk := hk.call hb'
           have cg := hk.cell
           have hRB := hk.b
           have hglt := hk.bk.lt
           have hws := hk.be.size
           clear hb')
        | (with_reducible show wpList _ _ _ (⟨_, .alloc 40, _, _, _, _⟩ :: _) _ _
           refine wpList_alloc_blk rfl 40 rfl _ zero_ruleR ?_
           intro w2 g2 hG2 hgr2 hge2
           have hb2 : Below _ _ w2 := below_none (Below.refl _ _) hgr2 (Nat.le_refl _)
           replace hk := hk.call hb2
           have hgg : g ≠ g2 := by have := hglt; omega
           have hw2 : w.heap.size ≤ g2 := by have := hws; omega
           clear hgr2 hge2 hb2)
        | (with_reducible show wpList _ _ _ (⟨_, .store 40 (.tmp 5) _, _, _, _, _⟩ :: _) _ _
           refine wpList_store_blk rfl 40 _ _ rfl g2 #[.slice A n c] rfl rfl 40 #[.slice none 0 0] hG2 (info_oneR _) rfl (by simp [Value.oneCell']) ?_
           intro w3 hG3 hgr3
           have ho : Rk 40 w w3 g2 A n c ws B := ⟨below_some hk.be hgr3 hk.be.size hw2, hk.rs.below (below_some (Below.refl _ _) hgr3 hk.b (by have := hk.bl; omega)), hG3, hk.bl⟩
           replace hk : Rk 38 w w3 g A n c ws B := ⟨ho.be, ho.rs, hk.bk.some_ hgr3 hgg, hk.bl⟩
           have cg := hk.cell
           have co := ho.cell
           have hRB := hk.b
           clear hG2 hgr3)
        | (with_reducible show wpList _ _ _ (⟨_, .load 38 _, _, _, _, _⟩ :: _) _ _
           refine wpList_load_blk rfl 38 _ rfl g rfl 38 #[.slice A n c] _ hk.bk Try.underlying38 rfl (info_oneP _) ?_)
        | (with_reducible show wpList _ _ _ (⟨_, .load 40 _, _, _, _, _⟩ :: _) _ _
           refine wpList_load_blk rfl 40 _ rfl g2 rfl 40 #[.slice A n c] _ ho.bk Try.underlying40 rfl (info_oneR _) ?_)
        | (go_at_call 26; refine (Replace_any A n c ws s _ B hRB hk.rs).mono ?_; rintro e w' ⟨rfl, hb'⟩; rw [hPV.out, hFE.out]
           replace hk := hk.call hb'
           replace ho := ho.call hb'
           have cg := hk.cell
           have co := ho.cell
           have hRB := hk.b
           clear hb')
        | (go_at_call 27; refine (refReplace_any A n c ws s _ B hRB hk.rs).mono ?_; rintro e w' ⟨rfl, hb'⟩; rw [hPV.out, hFE.out]
           replace hk := hk.call hb'
           replace ho := ho.call hb'
           have cg := hk.cell
           have co := ho.cell
           have hRB := hk.b
           clear hb')
        | (go_at_call 28; refine (Keeps_any A n c ws _ B hRB hk.rs).mono ?_; rintro e w' ⟨rfl, hb'⟩; rw [hKV.out, hRE.out]
           replace hk := hk.call hb'
           replace ho := ho.call hb'
           have cg := hk.cell
           have co := ho.cell
           have hRB := hk.b
           clear hb')
        | (go_at_call 29; refine (refKeeps_any A n c ws _ B hRB hk.rs).mono ?_; rintro e w' ⟨rfl, hb'⟩; rw [hKV.out, hRE.out]
           replace hk := hk.call hb'
           replace ho := ho.call hb'
           have cg := hk.cell
           have co := ho.cell
           have hRB := hk.b
           clear hb')
        | (go_at_call 30; refine (Against_any A n c ws _ B hRB hk.rs).mono ?_; rintro e w' ⟨rfl, hb'⟩; rw [hAV.out, hAE.out]
           replace hk := hk.call hb'
           replace ho := ho.call hb'
           have cg := hk.cell
           have co := ho.cell
           have hRB := hk.b
           clear hb')
        | (go_at_call 31; refine (refAgainst_any A n c ws _ B hRB hk.rs).mono ?_; rintro e w' ⟨rfl, hb'⟩; rw [hAV.out, hAE.out]
           replace hk := hk.call hb'
           replace ho := ho.call hb'
           have cg := hk.cell
           have co := ho.cell
           have hRB := hk.b
           clear hb'))
      go_region_held3 (fun w' => w'.cell? ⟨g, 0, none⟩ = some (.slice A n c) ∧ w'.cell? ⟨g2, 0, none⟩ = some (.slice A n c) ∧ Rk 38 w w' g A n c ws B ∧ Rk 40 w w' g2 A n c ws B)
        (first | assumption | exact ⟨cg, co, hk, ho⟩ | exact ⟨cg, co, hk.drew, ho.drew⟩)
        (first
          | (go_at_call 32; refine (Proves_any A n c ws s _ B hk.drew.b hk.drew.rs).mono ?_; rintro e wp ⟨rfl, hbp⟩; rw [hPE.out]
             have hk1 := hk.drew.call hbp
             have ho1 := ho.drew.call hbp
             have hS1 : wp.cell? ⟨g, 0, none⟩ = some (.slice A n c) ∧ wp.cell? ⟨g2, 0, none⟩ = some (.slice A n c) ∧ Rk 38 w wp g A n c ws B ∧ Rk 40 w wp g2 A n c ws B := ⟨hk1.cell, ho1.cell, hk1, ho1⟩)
          | (go_at_call 33; refine (refProves_any A n c ws s wp B hk1.b hk1.rs).mono ?_; rintro e wq ⟨rfl, hbq⟩; rw [hPE.out]
             have hk2 := hk1.call hbq
             have ho2 := ho1.call hbq
             have hS2 : wq.cell? ⟨g, 0, none⟩ = some (.slice A n c) ∧ wq.cell? ⟨g2, 0, none⟩ = some (.slice A n c) ∧ Rk 38 w wq g A n c ws B ∧ Rk 40 w wq g2 A n c ws B := ⟨hk2.cell, ho2.cell, hk2, ho2⟩)
          | (go_at_call 34; refine (CheckRule_any A n c ws wq B hk2.b hk2.rs).mono ?_; rintro e ws3 ⟨rfl, hb3⟩; rw [hRE.out]
             have hk3 := hk2.call hb3
             have ho3 := ho2.call hb3
             have hS3 : ws3.cell? ⟨g, 0, none⟩ = some (.slice A n c) ∧ ws3.cell? ⟨g2, 0, none⟩ = some (.slice A n c) ∧ Rk 38 w ws3 g A n c ws B ∧ Rk 40 w ws3 g2 A n c ws B := ⟨hk3.cell, ho3.cell, hk3, ho3⟩)
          | (go_at_call 35; refine (refCheckRule_any A n c ws ws3 B hk3.b hk3.rs).mono ?_; rintro e ws4 ⟨rfl, hb4⟩; rw [hRE.out]
             have hk4 := hk3.call hb4
             have ho4 := ho3.call hb4
             have hS4 : ws4.cell? ⟨g, 0, none⟩ = some (.slice A n c) ∧ ws4.cell? ⟨g2, 0, none⟩ = some (.slice A n c) ∧ Rk 38 w ws4 g A n c ws B ∧ Rk 40 w ws4 g2 A n c ws B := ⟨hk4.cell, ho4.cell, hk4, ho4⟩)
          | (go_at_call 12; refine (works_any ws4).mono ?_; rintro e ws5 ⟨rfl, hb5⟩
             have hk5 := hk4.call hb5
             have ho5 := ho4.call hb5
             have hS5 : ws5.cell? ⟨g, 0, none⟩ = some (.slice A n c) ∧ ws5.cell? ⟨g2, 0, none⟩ = some (.slice A n c) ∧ Rk 38 w ws5 g A n c ws B ∧ Rk 40 w ws5 g2 A n c ws B := ⟨hk5.cell, ho5.cell, hk5, ho5⟩))
      go_wp2_with (fail)
      go_ret
      exact ⟨rfl, hk5.be⟩
end Go.Proofs.Ytdaaiockkbolbaa
