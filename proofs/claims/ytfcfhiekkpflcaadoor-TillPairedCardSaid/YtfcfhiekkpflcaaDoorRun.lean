/- The law's run. -/
import Derived.Test.YtfcfhiekkpflcaaDoorRN
import Derived.Test.YtfcfhiekkpflcaaDoorPlainA
namespace Go.Proofs.YtfcfhiekkpflcaaDoor
open Go.RowKit
theorem negI_snoc (xs : List Int) (x : Int) : ∀ i : Nat, negI (xs ++ [x]) i = if negI xs i < 0 then (if x < 0 then (i : Int) + xs.length else -1) else negI xs i := by
  induction xs with
  | nil =>
    intro i
    show (if x < 0 then (i : Int) else -1) = if (-1 : Int) < 0 then (if x < 0 then (i : Int) + 0 else -1) else -1
    rw [if_pos (show (-1 : Int) < 0 by decide)]
    simp
  | cons y xs ih =>
    intro i
    rw [List.cons_append, negI, negI]
    by_cases h : y < 0
    · rw [if_pos h, if_pos h, if_neg (by omega)]
    · rw [if_neg h, if_neg h, ih]
      simp only [List.length_cons]
      congr 2
      omega
set_option maxRecDepth 100000 in
set_option maxHeartbeats 4000000 in
theorem run_any (s : ByteArray) (b : Int) (hs : s.size ≤ 1000) (hb : -1000000 ≤ b ∧ b ≤ 1000000) (w : World) : Calls Tryd.prog 42 #[.string s, .int .i64 b] w (RetIE (stepsT b (bts s)) (lacksT (bts s) b) w) := by
  go_enter Tryd.func42, Tryd.ntmps42
  go_wp2_with (fail)
  go_loopw [1, 6, 7, 11] (fun v1 o v7 v11 wr => ∃ i : Nat, i ≤ s.size ∧ v11 = .int .i64 i ∧ v1 = .int .i64 (endT b ((bts s).take i)) ∧ v7 = .int .i64 (negI (stepsT b ((bts s).take i)) 0) ∧ OwnI wr w.heap.size o (stepsT b ((bts s).take i)) ∧ Below w.heap.size w wr) (fun _ _ _ v _ => s.size - (intOf v).toNat)
  case atStart => exact ⟨0, by omega, rfl, rfl, rfl, OwnI.nil _ _, Below.refl _ _⟩
  case round =>
    obtain ⟨i, hi, rfl, rfl, rfl, ho, hbe⟩ := hrel
    obtain ⟨wa, rfl⟩ : ∃ x, x = wr := ⟨wr, rfl⟩
    by_cases hlt : i < s.size
    · have hlti : (i : Int) < s.size := by omega
      have hat := bts_at s i hlt
      have hbd := end_bound ((bts s).take i) b
      rw [List.length_take, bts_len] at hbd
      have hst : stepsT b ((bts s).take (i + 1)) = stepsT b ((bts s).take i) ++ [stp (endT b ((bts s).take i)) s[i]] := by rw [List.take_add_one, hat, Option.toList_some, steps_snoc]
      have het : endT b ((bts s).take (i + 1)) = stp (endT b ((bts s).take i)) s[i] := by rw [List.take_add_one, hat, Option.toList_some, end_snoc]
      have hng := negI_snoc (stepsT b ((bts s).take i)) (stp (endT b ((bts s).take i)) s[i]) 0
      rw [← hst] at hng
      have hPl : (stepsT b ((bts s).take i)).length = i := by rw [steps_len, List.length_take, bts_len]; omega
      have hnb := negI_bound (stepsT b ((bts s).take i)) 0
      rw [hPl] at hng hnb
      obtain ⟨E, hE⟩ : ∃ E, endT b ((bts s).take i) = E := ⟨_, rfl⟩
      obtain ⟨P, hP⟩ : ∃ P, stepsT b ((bts s).take i) = P := ⟨_, rfl⟩
      obtain ⟨M, hM⟩ : ∃ M, negI P 0 = M := ⟨_, rfl⟩
      rw [hE] at hbd het hst hng ⊢
      rw [hP] at hPl hst hng hnb ho ⊢
      rw [hM] at hng hnb ⊢
      obtain ⟨F, hF⟩ : ∃ F, stp E s[i] = F := ⟨_, rfl⟩
      rw [hF] at hst het hng
      have hcase : (((s[i].toNat : Int) == 99) = true ∧ E + 1 = F) ∨ (((s[i].toNat : Int) == 99) = false ∧ E - 1 = F) := by
        unfold stp at hF
        split at hF
        · rename_i h; left; rw [h]; exact ⟨rfl, hF⟩
        · rename_i h; right
          refine ⟨?_, hF⟩
          rw [beq_eq_false_iff_ne]
          intro e
          exact h (UInt8.toNat_inj.1 (by rw [show (99 : UInt8).toNat = 99 from rfl]; omega))
      have hstH := Lib.hid hst
      have hetH := Lib.hid het
      clear hE hP hM hF hst het hat
      have hFb : -2000000 ≤ F ∧ F ≤ 2000000 := by rcases hcase with ⟨_, h⟩ | ⟨_, h⟩ <;> omega
      have hszn := hbe.size
      have key : ∃ M1, Hid (negI (stepsT b ((bts s).take (i + 1))) 0 = M1) ∧ ((F < 0 ∧ M < 0 ∧ M1 = i) ∨ (F < 0 ∧ ¬ M < 0 ∧ M1 = M) ∨ (¬ F < 0 ∧ M1 = M)) := by
        refine ⟨_, Lib.hid rfl, ?_⟩
        rw [hng]
        by_cases hF0 : F < 0
        · by_cases hM0 : M < 0
          · left; rw [if_pos hM0, if_pos hF0]; exact ⟨hF0, hM0, by omega⟩
          · right; left; rw [if_neg hM0]; exact ⟨hF0, hM0, rfl⟩
        · right; right
          refine ⟨hF0, ?_⟩
          by_cases hM0 : M < 0
          · rw [if_pos hM0, if_neg hF0]; omega
          · rw [if_neg hM0]
      replace hPl : P.length ≤ 1000000 := by omega
      obtain ⟨M1, hM1, hk⟩ := key
      clear hng
      rcases hcase with ⟨hg, hEF⟩ | ⟨hg, hEF⟩ <;> rcases hk with ⟨hF0, hM0, hm1⟩ | ⟨hF0, hM0, hm1⟩ | ⟨hF0, hm1⟩
      all_goals
        replace hm1 := Lib.hid hm1
        go_wp2_with (first
          | (at_builtin
             refine wpList_push rfl _ _ rfl rfl (ho.none_ (World.grownBy_alloc wa _ none)) wa.heap.size 1 F rfl (Blk.new wa _ _) (by omega) (by show _ ≤ (wa.heap.push _).size; simp; omega) ?_
             intro g6 cap6 w6 ho6 hgr6 _ _
             have hb6 := (hbe.alloc hbe.size (.cells #[.int .i64 F] 3)).grown hgr6 (by show _ ≤ (wa.heap.push _).size; simp; omega) (fun g hg => ho.ge hg)))
        go_roundw
        case rel => exact ⟨i + 1, by omega, by go_num, by rw [hetH.out], by rw [hM1.out, hm1.out], by rw [hstH.out]; simpa [OwnI] using ho6, hb6⟩
        case measure => simp only [intOf]; omega
    · have hlti : ¬ (i : Int) < s.size := by omega
      rw [List.take_of_length_le (by rw [bts_len]; omega)] at ho ⊢
      go_wp2_with (fail)
      go_ret2
      exact ⟨_, rfl, ho, hbe⟩
end Go.Proofs.YtfcfhiekkpflcaaDoor
