/- The law's division of an order of customers. -/
import Derived.Test.YthbkfhhnhiplkaaDoorBoxP
import Derived.Test.YthbkfhhnhiplkaaDoorPush
namespace Go.Proofs.YthbkfhhnhiplkaaDoor
open Go.RowKit
namespace Bx
open Ti (bts bts_len bts_at)
open Bu (natI)
theorem cnt_step {l : List UInt8} {j : Nat} {x : UInt8} (h : l[j]? = some x) : cntC (l.drop j) = (if x = 99 then 1 else 0) + cntC (l.drop (j + 1)) := by
  obtain ⟨hj, he⟩ := List.getElem?_eq_some_iff.1 h
  rw [List.drop_eq_getElem_cons hj, he]
  unfold cntC
  by_cases hx : x = 99
  · subst hx
    simp
    omega
  · rw [List.filter_cons, if_neg (by simpa using hx), if_neg hx, Nat.zero_add]
theorem div_step {l : List UInt8} {i : Nat} {x : UInt8} (h : l[i]? = some x) : divL (l.drop i) = if x = 110 then (if 0 < cntC (l.drop (i + 1)) then cntC (l.drop (i + 1)) :: divL (l.drop (i + 1)) else divL (l.drop (i + 1))) else divL (l.drop (i + 1)) := by
  obtain ⟨hj, he⟩ := List.getElem?_eq_some_iff.1 h
  rw [List.drop_eq_getElem_cons hj, he, divL]
theorem cnt_le (l : List UInt8) : cntC l ≤ l.length := List.length_filter_le _ _
set_option maxRecDepth 100000 in
set_option maxHeartbeats 2000000 in
theorem division_any (s : ByteArray) (hs : s.size ≤ 1000) (w : World) : Calls Tryd.prog 10 #[.string s] w fun e w' => (∃ v, e = .returned v ∧ OwnI w' w.heap.size v (natI (divL (bts s)))) ∧ Below w.heap.size w w' := by
  obtain ⟨R, hR⟩ : ∃ R, divL (bts s) = R := ⟨_, rfl⟩
  rw [hR]
  have hRH := Lib.hid (show [] ++ divL ((bts s).drop 0) = R by rw [List.nil_append, List.drop_zero]; exact hR)
  clear hR
  go_enter Tryd.func10, Tryd.ntmps10
  go_wp2_with (fail)
  go_loopw [3, 9] (fun o v wr => ∃ (i : Nat) (acc : List Nat), i ≤ s.size ∧ v = .int .i64 i ∧ acc.length ≤ i ∧ OwnI wr w.heap.size o (natI acc) ∧ Hid (acc ++ divL ((bts s).drop i) = R) ∧ Below w.heap.size w wr) (fun _ v _ => s.size - (intOf v).toNat)
  case atStart => exact ⟨0, [], by omega, rfl, Nat.le_refl _, OwnI.nil _ _, hRH, Below.refl _ _⟩
  case round =>
    clear hRH
    obtain ⟨i, acc, hi, rfl, hal, ho, hE, hb⟩ := hrel
    obtain ⟨wa, rfl⟩ : ∃ x, x = wr := ⟨wr, rfl⟩
    by_cases hlt : i < s.size
    · have hlti : (i : Int) < s.size := by omega
      have hat := bts_at s i hlt
      have hst := div_step hat
      by_cases hx : s[i] = 110
      · have hx1 : (s[i].toNat : Int) = 110 := by rw [hx]; rfl
        have hx2 : ((s[i].toNat : Int) != 110) = false := by rw [hx1]; rfl
        rw [if_pos hx] at hst
        obtain ⟨T, hT⟩ : ∃ T, cntC ((bts s).drop (i + 1)) = T := ⟨_, rfl⟩
        rw [hT] at hst
        have hTH := Lib.hid (show 0 + cntC ((bts s).drop (i + 1)) = T by omega)
        have hstH := Lib.hid hst
        have hTl : T ≤ s.size := by
          have h1 := cnt_le ((bts s).drop (i + 1))
          rw [hT, List.length_drop, bts_len] at h1
          omega
        clear hst hT hat hx
        go_wp2_with (fail)
        go_loopw [5, 6] (fun t v wr => ∃ j y : Nat, i < j ∧ j ≤ s.size ∧ v = .int .i64 j ∧ t = .int .i64 y ∧ y ≤ T ∧ Hid (y + cntC ((bts s).drop j) = T) ∧ wa = wr) (fun _ v _ => s.size - (intOf v).toNat)
        case atStart => exact ⟨i + 1, 0, by omega, by omega, by go_num, rfl, by omega, hTH, rfl⟩
        case round =>
          clear hTH
          obtain ⟨j, y, hij, hj, rfl, rfl, hyT, hy, hw⟩ := hrel
          subst hw
          by_cases hlt2 : j < s.size
          · have hlti2 : (j : Int) < s.size := by omega
            have hat2 := bts_at s j hlt2
            have hst2 := cnt_step hat2
            by_cases hz : s[j] = 99
            · have hz1 : (s[j].toNat : Int) = 99 := by rw [hz]; rfl
              have hz2 : ((s[j].toNat : Int) == 99) = true := by rw [hz1]; rfl
              rw [if_pos hz] at hst2
              have hy0 := hy.out
              have hN := Lib.hid (show (y + 1) + cntC ((bts s).drop (j + 1)) = T by omega)
              have hyT2 : y + 1 ≤ T := by omega
              clear hst2 hat2 hz hy0
              go_wp2_with (fail)
              go_roundw
              case rel => exact ⟨j + 1, y + 1, by omega, by omega, by go_num, by go_num, by omega, hN, by first | rfl | trivial⟩
              case measure => simp only [intOf]; omega
            · have hz1 : ¬ (s[j].toNat : Int) = 99 := fun h => hz (by apply UInt8.toNat_inj.1; show s[j].toNat = 99; omega)
              have hz2 : ((s[j].toNat : Int) == 99) = false := by simpa using hz1
              rw [if_neg hz] at hst2
              have hy0 := hy.out
              have hN := Lib.hid (show y + cntC ((bts s).drop (j + 1)) = T by omega)
              clear hst2 hat2 hz hy0 hz1
              go_wp2_with (fail)
              go_roundw
              case rel => exact ⟨j + 1, y, by omega, by omega, by go_num, rfl, by omega, hN, by first | rfl | trivial⟩
              case measure => simp only [intOf]; omega
          · have hlti2 : ¬ (j : Int) < s.size := by omega
            have hyT1 : y = T := by
              rw [← hy.out, List.drop_of_length_le (by rw [bts_len]; omega)]
              rfl
            subst hyT1
            by_cases h0 : 0 < y
            · have h0i : (0 : Int) < y := by omega
              have hst3 := hstH.out
              rw [if_pos h0] at hst3
              have hN := Lib.hid (show (acc ++ [y]) ++ divL ((bts s).drop (i + 1)) = R by rw [← hE.out, hst3]; simp)
              have e1 : natI acc ++ [(y : Int)] = natI (acc ++ [y]) := by simp [natI]
              have hlen : (natI acc).length ≤ 1000000000 := by simp [natI]; omega
              clear hst3
              go_wp2_with (first
                | (at_builtin
                   refine wpList_push rfl _ _ rfl rfl (ho.none_ (World.grownBy_alloc wa _ none)) wa.heap.size 1 (y : Int) rfl (Blk.new wa _ _) hlen (by show _ ≤ (wa.heap.push _).size; have := hb.size; simp; omega) ?_
                   intro g6 cap6 w6 ho6 hgr6 hat6 _
                   have hb6 := (hb.alloc hb.size (.cells #[.int .i64 (y : Int)] 3)).grown hgr6 (by show _ ≤ (wa.heap.push _).size; have := hb.size; simp; omega) (fun g hg => ho.ge hg)
                   rw [e1] at ho6))
              go_roundw
              case rel => exact ⟨i + 1, acc ++ [y], by omega, by go_num, by simp; omega, ho6, hN, hb6⟩
              case measure => simp only [intOf]; omega
            · have h0i : ¬ (0 : Int) < y := by omega
              have h0n : decide (0 < y) = false := decide_eq_false h0
              have hst3 := hstH.out
              rw [if_neg h0] at hst3
              have hN := Lib.hid (show acc ++ divL ((bts s).drop (i + 1)) = R by rw [← hE.out, hst3])
              clear hst3
              go_wp2_with (fail)
              go_roundw
              case rel => exact ⟨i + 1, acc, by omega, by go_num, by omega, ho, hN, hb⟩
              case measure => simp only [intOf]; omega
      · have hx1 : ¬ (s[i].toNat : Int) = 110 := fun h => hx (by apply UInt8.toNat_inj.1; show s[i].toNat = 110; omega)
        have hx2 : ((s[i].toNat : Int) != 110) = true := by simpa using hx1
        rw [if_neg hx] at hst
        have hN := Lib.hid (show acc ++ divL ((bts s).drop (i + 1)) = R by rw [← hE.out, hst])
        clear hst hat hx hx1
        go_wp2_with (fail)
        go_roundw
        case rel => exact ⟨i + 1, acc, by omega, by go_num, by omega, ho, hN, hb⟩
        case measure => simp only [intOf]; omega
    · have hlti : ¬ (i : Int) < s.size := by omega
      have hE2 : acc = R := by
        have h1 := hE.out
        rwa [List.drop_of_length_le (by rw [bts_len]; omega), divL, List.append_nil] at h1
      rw [hE2] at ho
      clear hE2
      go_wp2_with (fail)
      go_ret
      exact ⟨⟨_, rfl, ho⟩, hb⟩
end Bx
end Go.Proofs.YthbkfhhnhiplkaaDoor
