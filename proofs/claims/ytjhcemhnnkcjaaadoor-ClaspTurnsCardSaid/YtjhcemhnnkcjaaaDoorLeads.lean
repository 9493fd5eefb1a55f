/- Leads of the program. -/
import Derived.Test.YtjhcemhnnkcjaaaDoorMove
import Derived.Test.YtjhcemhnnkcjaaaDoorRestEq
import Derived.Test.YtjhcemhnnkcjaaaDoorApi2
namespace Go.Proofs.YtjhcemhnnkcjaaaDoor
open Go.RowKit
/-- moves made one by one: where they lead, and the first error -/
def leadF : List Int → List Int → List Int × Int
  | xs, [] => (xs, 0)
  | xs, r :: rs => if stepE xs r = 0 then leadF (moveS xs r.toNat) rs else (xs, stepE xs r)
def leadsE (xs ys way : List Int) : Int := if bothE xs ys ≠ 0 then bothE xs ys else if (leadF xs way).2 ≠ 0 then (leadF xs way).2 else if numS (leadF xs way).1 = numS ys then 0 else 14
theorem leadF_ok {xs way : List Int} {k : Nat} {r : Int} (h : way[k]? = some r) (hs : stepE xs r = 0) : leadF xs (way.drop k) = leadF (moveS xs r.toNat) (way.drop (k + 1)) := by
  have hk : k < way.length := (List.getElem?_eq_some_iff.1 h).1
  rw [List.drop_eq_getElem_cons hk]
  have : way[k] = r := (List.getElem?_eq_some_iff.1 h).2
  rw [this, leadF, if_pos hs]
theorem leadF_bad {xs way : List Int} {k : Nat} {r : Int} (h : way[k]? = some r) (hs : stepE xs r ≠ 0) : leadF xs (way.drop k) = (xs, stepE xs r) := by
  have hk : k < way.length := (List.getElem?_eq_some_iff.1 h).1
  rw [List.drop_eq_getElem_cons hk]
  have : way[k] = r := (List.getElem?_eq_some_iff.1 h).2
  rw [this, leadF, if_neg hs]
theorem leadsE_step {xs ys way cur : List Int} {k : Nat} {r : Int} (hb : bothE xs ys = 0) (hF : leadF xs way = leadF cur (way.drop k)) (h : way[k]? = some r) (hs : stepE cur r ≠ 0) : leadsE xs ys way = stepE cur r := by
  rw [leadsE, if_neg (by simp [hb]), hF, leadF_bad h hs, if_pos hs]
theorem leadsE_end {xs ys way cur : List Int} (hb : bothE xs ys = 0) (hF : leadF xs way = leadF cur (way.drop way.length)) : leadsE xs ys way = if numS cur = numS ys then 0 else 14 := by
  rw [leadsE, if_neg (by simp [hb]), hF]; simp [leadF]
set_option maxRecDepth 100000 in
set_option maxHeartbeats 4000000 in
theorem Leads_ok (A B C : Option Addr) (n m c d f : Nat) (xs ys way : List Int) (w : World) (ha : RInts w w.heap.size A n xs) (hb : RInts w w.heap.size B n ys) (hc : RInts w w.heap.size C m way) (hn : n ≤ maxLen) (hm : m ≤ maxLen) (he : bothE xs ys = 0) :
    Calls Tryd.prog 29 #[.slice A n c, .slice B n d, .slice C m f] w (RetE (leadsE xs ys way) w) := by
  obtain ⟨_, hx, hy, _, _, _, hn16, hn0⟩ := walked_pre ha hb he
  have hX := Lib.hid hx
  have hY := Lib.hid hy
  have hE := Lib.hid he
  have hbx := Lib.hid (bin_of_all (chk_zero hx).2.2)
  have hby := Lib.hid (bin_of_all (chk_zero hy).2.2)
  have hLx := Lib.hid ha.len
  have hLy := Lib.hid hb.len
  have hLw := Lib.hid hc.len
  unfold maxLen at hm
  clear hx hy he
  go_enter Tryd.func29, Tryd.ntmps29
  go_wp2_with (first
    | (go_at_call 56; refine (walked_ok A B n c d xs ys w ha hb hn hX.out hY.out).mono ?_; rintro e w1 ⟨rfl, hb1⟩; unfold walkC
       have hb2 := hb1.alloc hb1.size (.cells (walkC n (numS xs) (numS ys)) 78))
    | (go_at_call 49
       refine (laid_ok A n c xs _ ((ha.below hb2).more hb2.size) hn hX.out).mono ?_
       rintro e w3 ⟨rfl, hb3⟩
       have hbe3 := hb2.trans (hb3.mono hb2.size)
       clear hb2 hb3)
    | (with_reducible show wpList _ _ _ (⟨some 9, .alloc 68, _, _, _, _⟩ :: _) _ _
       refine wpList_alloc_blk rfl 68 rfl _ zero_rest ?_
       intro w4 g9 hB4 hg4 hs4
       have hbe4 := below_none hbe3 hg4 hbe3.size
       have hge : w.heap.size ≤ g9 := by have := hbe3.size; omega)
    | (with_reducible show wpList _ _ _ (⟨_, .store 68 (.tmp 9) (.tmp 29), _, _, _, _⟩ :: _) _ _
       refine wpList_store_blk rfl 68 _ _ rfl g9 (restC n (pad xs)) rfl rfl 68 (restC 0 (pad [])) hB4 (info_rest' _ _) (restC_sizes _ _ _ _) (restC_one _ _) ?_
       intro w5 hB5 hg5
       have hbe5 := below_some hbe4 hg5 hbe4.size hge))
  clear hb1 hbe3 hB4 hg4 hs4 hbe4 hg5
  go_loopw [33] (fun i wr => ∃ (k : Nat) (cur : List Int), k ≤ m ∧ i = .int .i64 k ∧ Hid (cur.length = n) ∧ Hid (bin cur) ∧ Hid (leadF xs way = leadF cur (way.drop k)) ∧ Blk wr g9 68 (restC n (pad cur)) ∧ Below w.heap.size w wr) (fun i _ => m - (intOf i).toNat)
  case atStart => exact ⟨0, xs, by omega, rfl, hLx, hbx, rfl, hB5, hbe5⟩
  case round =>
    clear hB5 hbe5
    obtain ⟨k, cur, hk, rfl, hLc, hbc, hF, hB5, hbe5⟩ := hrel
    by_cases hlt : k < m
    · obtain ⟨ad, r, rfl, _, hr1, hr⟩ := (hc.below hbe5).at_ hlt
      by_cases hs : stepE cur r = 0
      · have hF' := Lib.hid (hF.out.trans (leadF_ok hr.out hs))
        obtain ⟨s0, s1, s2⟩ := stepE_zero hs
        obtain ⟨j, rfl⟩ : ∃ j : Nat, r = j := ⟨r.toNat, by omega⟩
        have hjn : j < n := by rw [hLc.out] at s1; omega
        have hcan := Lib.hid (show canS cur j = true from s2)
        have hLm := Lib.hid (show (moveS cur j).length = n by rw [moveS_length, hLc.out])
        have hbm := Lib.hid (moveS_bin hbc.out j)
        clear hs s0 s1 s2
        go_wp2_with (first
          | (with_reducible show wpList _ _ _ (⟨some 38, .load 68 _, _, _, _, _⟩ :: _) _ _
             refine wpList_load_blk rfl 68 _ rfl g9 rfl 68 _ _ hB5 Tryd.underlying68 rfl (info_rest' _ _) ?_)
          | (go_at_call 62
             refine (moved_ok n j cur hLc.out hbc.out hn16 hjn hcan.out _).mono ?_
             rintro e w6 ⟨rfl, hb6⟩
             have hB6 := hB5.callee hb6
             have hbe6 := hbe5.trans (hb6.mono hbe5.size)
             clear hb6)
          | (with_reducible show wpList _ _ _ (⟨some 13, .alloc 68, _, _, _, _⟩ :: _) _ _
             refine wpList_alloc_blk rfl 68 rfl _ zero_rest ?_
             intro w7 g13 hB7 hg7 hs7
             have hB67 := hB6.none_ hg7
             have hbe7 := below_none hbe6 hg7 hbe6.size
             have hne : g9 ≠ g13 := by have := hB6.lt; omega
             have hge13 : w.heap.size ≤ g13 := by have := hbe6.size; omega
             clear hg7 hB6 hbe6)
          | (with_reducible show wpList _ _ _ (⟨_, .store 68 (.tmp 13) (.tmp 41), _, _, _, _⟩ :: _) _ _
             refine wpList_store_blk rfl 68 _ _ rfl g13 (restC n (pad (moveS cur j))) rfl rfl 68 (restC 0 (pad [])) hB7 (info_rest' _ _) (restC_sizes _ _ _ _) (restC_one _ _) ?_
             intro w8 hB8 hg8
             have hB68 := hB67.some_ hg8 hne
             have hbe8 := below_some hbe7 hg8 hbe7.size hge13
             clear hg8 hB67 hbe7 hB7)
          | (with_reducible show wpList _ _ _ (⟨some 46, .load 68 _, _, _, _, _⟩ :: _) _ _
             refine wpList_load_blk rfl 68 _ rfl g13 rfl 68 _ _ hB8 Tryd.underlying68 rfl (info_rest' _ _) ?_)
          | (with_reducible show wpList _ _ _ (⟨_, .store 68 (.tmp 9) (.tmp 46), _, _, _, _⟩ :: _) _ _
             refine wpList_store_blk rfl 68 _ _ rfl g9 (restC n (pad (moveS cur j))) rfl rfl 68 (restC n (pad cur)) hB68 (info_rest' _ _) (restC_sizes _ _ _ _) (restC_one _ _) ?_
             intro w9 hB9 hg9
             have hbe9 := below_some hbe8 hg9 hbe8.size hge
             clear hg9))
        go_roundw
        case rel => exact ⟨k + 1, moveS cur j, by omega, by go_num, hLm, hbm, hF', hB9, hbe9⟩
        case measure => simp [intOf]; omega
      · have hR := Lib.hid (leadsE_step hE.out hF.out hr.out hs)
        have hsH := Lib.hid hs
        have hsb : (stepE cur r != 0) = true := by simpa using hs
        clear hs
        go_wp2_with (first
          | (with_reducible show wpList _ _ _ (⟨some 38, .load 68 _, _, _, _, _⟩ :: _) _ _
             refine wpList_load_blk rfl 68 _ rfl g9 rfl 68 _ _ hB5 Tryd.underlying68 rfl (info_rest' _ _) ?_)
          | (go_at_call 62
             refine (moved_bad n r cur hLc.out hn16 hsH.out _).mono ?_
             rintro e w6 ⟨rfl, hb6⟩
             have hbe6 := hbe5.trans (hb6.mono hbe5.size)
             clear hb6)
          | (with_reducible show wpList _ _ _ (⟨some 13, .alloc 68, _, _, _, _⟩ :: _) _ _
             refine wpList_alloc_blk rfl 68 rfl _ zero_rest ?_
             intro w7 g13 hB7 hg7 hs7
             have hbe7 := below_none hbe6 hg7 hbe6.size
             have hge13 : w.heap.size ≤ g13 := by have := hbe6.size; omega)
          | (with_reducible show wpList _ _ _ (⟨_, .store 68 (.tmp 13) (.tmp 41), _, _, _, _⟩ :: _) _ _
             refine wpList_store_blk rfl 68 _ _ rfl g13 (restC 0 (pad [])) rfl rfl 68 (restC 0 (pad [])) hB7 (info_rest' _ _) (restC_sizes _ _ _ _) (restC_one _ _) ?_
             intro w8 hB8 hg8
             have hbe8 := below_some hbe7 hg8 hbe7.size hge13))
        go_ret
        exact ⟨by rw [hR.out]; rfl, hbe8⟩
    · obtain rfl : k = m := by omega
      have hEnd := leadsE_end (ys := ys) hE.out (by rw [hLw.out]; exact hF.out)
      have hneq := rest_neq n cur ys hbc.out hby.out (by rw [hLc.out, hLy.out]) (by rw [hLc.out]; exact hn16)
      by_cases hq : numS cur = numS ys
      · rw [if_pos hq] at hEnd
        have hqd : decide (numS cur = numS ys) = true := by simpa using hq
        rw [hqd] at hneq
        have hR := Lib.hid hEnd
        clear hEnd hq hqd
        go_wp2_with (first
          | (go_at_call 49
             refine (laid_ok B n d ys _ ((hb.below hbe5).more hbe5.size) hn hY.out).mono ?_
             rintro e w6 ⟨rfl, hb6⟩
             have hB6 := hB5.callee hb6
             have hbe6 := hbe5.trans (hb6.mono hbe5.size)
             clear hb6)
          | (with_reducible show wpList _ _ _ (⟨some 15, .alloc 68, _, _, _, _⟩ :: _) _ _
             refine wpList_alloc_blk rfl 68 rfl _ zero_rest ?_
             intro w7 g15 hB7 hg7 hs7
             have hB67 := hB6.none_ hg7
             have hbe7 := below_none hbe6 hg7 hbe6.size
             have hne : g9 ≠ g15 := by have := hB6.lt; omega
             have hge15 : w.heap.size ≤ g15 := by have := hbe6.size; omega
             clear hg7 hB6 hbe6)
          | (with_reducible show wpList _ _ _ (⟨_, .store 68 (.tmp 15) (.tmp 51), _, _, _, _⟩ :: _) _ _
             refine wpList_store_blk rfl 68 _ _ rfl g15 (restC n (pad ys)) rfl rfl 68 (restC 0 (pad [])) hB7 (info_rest' _ _) (restC_sizes _ _ _ _) (restC_one _ _) ?_
             intro w8 hB8 hg8
             have hB68 := hB67.some_ hg8 hne
             have hbe8 := below_some hbe7 hg8 hbe7.size hge15
             clear hg8 hB67 hbe7 hB7)
          | (with_reducible show wpList _ _ _ (⟨some 53, .load 68 _, _, _, _, _⟩ :: _) _ _
             refine wpList_load_blk rfl 68 _ rfl g9 rfl 68 _ _ hB68 Tryd.underlying68 rfl (info_rest' _ _) ?_)
          | (with_reducible show wpList _ _ _ (⟨some 54, .load 68 _, _, _, _, _⟩ :: _) _ _
             refine wpList_load_blk rfl 68 _ rfl g15 rfl 68 _ _ hB8 Tryd.underlying68 rfl (info_rest' _ _) ?_))
        go_ret
        exact ⟨by rw [hR.out]; rfl, hbe8⟩
      · rw [if_neg hq] at hEnd
        have hqd : decide (numS cur = numS ys) = false := by simpa using hq
        rw [hqd] at hneq
        have hR := Lib.hid hEnd
        clear hEnd hq hqd
        go_wp2_with (first
          | (go_at_call 49
             refine (laid_ok B n d ys _ ((hb.below hbe5).more hbe5.size) hn hY.out).mono ?_
             rintro e w6 ⟨rfl, hb6⟩
             have hB6 := hB5.callee hb6
             have hbe6 := hbe5.trans (hb6.mono hbe5.size)
             clear hb6)
          | (with_reducible show wpList _ _ _ (⟨some 15, .alloc 68, _, _, _, _⟩ :: _) _ _
             refine wpList_alloc_blk rfl 68 rfl _ zero_rest ?_
             intro w7 g15 hB7 hg7 hs7
             have hB67 := hB6.none_ hg7
             have hbe7 := below_none hbe6 hg7 hbe6.size
             have hne : g9 ≠ g15 := by have := hB6.lt; omega
             have hge15 : w.heap.size ≤ g15 := by have := hbe6.size; omega
             clear hg7 hB6 hbe6)
          | (with_reducible show wpList _ _ _ (⟨_, .store 68 (.tmp 15) (.tmp 51), _, _, _, _⟩ :: _) _ _
             refine wpList_store_blk rfl 68 _ _ rfl g15 (restC n (pad ys)) rfl rfl 68 (restC 0 (pad [])) hB7 (info_rest' _ _) (restC_sizes _ _ _ _) (restC_one _ _) ?_
             intro w8 hB8 hg8
             have hB68 := hB67.some_ hg8 hne
             have hbe8 := below_some hbe7 hg8 hbe7.size hge15
             clear hg8 hB67 hbe7 hB7)
          | (with_reducible show wpList _ _ _ (⟨some 53, .load 68 _, _, _, _, _⟩ :: _) _ _
             refine wpList_load_blk rfl 68 _ rfl g9 rfl 68 _ _ hB68 Tryd.underlying68 rfl (info_rest' _ _) ?_)
          | (with_reducible show wpList _ _ _ (⟨some 54, .load 68 _, _, _, _, _⟩ :: _) _ _
             refine wpList_load_blk rfl 68 _ rfl g15 rfl 68 _ _ hB8 Tryd.underlying68 rfl (info_rest' _ _) ?_))
        go_ret
        exact ⟨by rw [hR.out]; rfl, hbe8⟩
theorem leadsE_bad {xs ys way : List Int} (h : bothE xs ys ≠ 0) : leadsE xs ys way = bothE xs ys := by rw [leadsE, if_pos h]
set_option maxRecDepth 100000 in
set_option maxHeartbeats 1000000 in
theorem Leads_any (A B C : Option Addr) (n p m c d f : Nat) (xs ys way : List Int) (w : World) (ha : RInts w w.heap.size A n xs) (hb : RInts w w.heap.size B p ys) (hc : RInts w w.heap.size C m way) (hn : n ≤ maxLen) (hp : p ≤ maxLen) (hm : m ≤ maxLen) :
    Calls Tryd.prog 29 #[.slice A n c, .slice B p d, .slice C m f] w (RetE (leadsE xs ys way) w) := by
  by_cases he : bothE xs ys = 0
  · obtain ⟨rfl, _⟩ := walked_pre ha hb he
    exact Leads_ok A B C n m c d f xs ys way w ha hb hc hn hm he
  · rw [leadsE_bad he]
    have hE := Lib.hid he
    have hbb : (bothE xs ys != 0) = true := by simpa using he
    clear he
    go_enter Tryd.func29, Tryd.ntmps29
    go_wp2_with (first
      | (go_at_call 56; refine (walked_bad A B n p c d xs ys w ha hb hn hp hE.out).mono ?_; rintro e w1 ⟨rfl, hb1⟩; unfold walkC))
    go_ret
    exact ⟨rfl, hb1.alloc hb1.size _⟩
end Go.Proofs.YtjhcemhnnkcjaaaDoor
