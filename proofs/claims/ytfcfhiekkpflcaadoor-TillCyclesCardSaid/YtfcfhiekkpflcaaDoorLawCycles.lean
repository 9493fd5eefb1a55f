/- The law's TillCycles. -/
import Derived.Test.YtfcfhiekkpflcaaDoorWorks
import Derived.Test.YtfcfhiekkpflcaaDoorCyc
import Derived.Test.YtfcfhiekkpflcaaDoorLawNeeded
namespace Go.Proofs.YtfcfhiekkpflcaaDoor
open Go.RowKit
theorem turnL_keep {l : Word} {k : Int} (h : opT l k = 0) : turnL l k = keepN l k l.length := by
  unfold turnL
  rw [if_pos h, turnN_keepN _ _ _ (Nat.le_refl _)]
set_option maxRecDepth 100000 in
set_option maxHeartbeats 4000000 in
theorem cycles_law (a b : Nat) (x : Int) (ha : a ≤ 255) (hb : b ≤ 65535) (hx : 0 ≤ x ∧ x ≤ 255) (w : World) : Calls Tryd.prog 7 #[.agg #[.int .u8 (a : Int), .int .u16 (b : Int)], .int .u8 x] w fun e w' => e = .returned (.bool true) ∧ Below w.heap.size w w' := by
  have eg := enters_of Tryd.func41 (by kernel_rfl) rfl
  have cm := Lib.hid (fun w' => made_any a b ha hb w')
  obtain ⟨T, hT, hT16, hok, hck⟩ := que_letter a b
  rw [hT] at cm
  obtain ⟨r, hr⟩ : ∃ r, x % 21 = r := ⟨_, rfl⟩
  have hr1 : Int.tmod x 21 = r := by rw [Int.tmod_eq_emod_of_nonneg (by omega)]; exact hr
  have hr0 : 0 ≤ r := by omega
  have hr20 : r ≤ 20 := by omega
  have c1 := Lib.hid (fun w' => Turns_any T r w')
  have c2 := Lib.hid (fun w' => Turns_any T 1 w')
  have hop1 := op_in hck hr0 hr20
  have hop2 := op_in (k := 1) hck (by omega) (by omega)
  rw [turnL_keep hop1, hop1, bts_len] at c1
  rw [turnL_keep hop2, hop2, bts_len] at c2
  have cf1 := Lib.hid (fun g w' (hG : Blk w' g 9 #[.string T]) => turnsF_any T g r hT16 hr0 w' hG)
  have cf2 := Lib.hid (fun g w' (hG : Blk w' g 9 #[.string T]) => turnsF_any T g 1 hT16 (by omega) w' hG)
  have hk1 := keep_one (bts T)
  rw [bts_len] at hk1
  have hl1 := keepN_len (bts T) r T.size
  have hl2 := keepN_len (bts T) 1 T.size
  obtain ⟨X, hX⟩ : ∃ X, keepN (bts T) r T.size = X := ⟨_, rfl⟩
  obtain ⟨Y, hY⟩ : ∃ Y, keepN (bts T) 1 T.size = Y := ⟨_, rfl⟩
  rw [hX] at c1 cf1 hl1
  rw [hY] at c2 cf2 hl2 hk1
  replace hl1 : X.length ≤ 1000000 := by omega
  replace hl2 : Y.length ≤ 1000000 := by omega
  have hokH := Lib.hid hok
  have hkH := Lib.hid hk1
  clear hT hr hX hY hop1 hop2 hck hok ha hb hk1
  go_enter Tryd.func7, Tryd.ntmps7
  go_wp2_with (first
    | (with_reducible show wpList _ _ _ (⟨_, .box 45 _, _, _, _, _⟩ :: _) _ _
       refine wpList_box_blk rfl 45 _ rfl #[.int .u8 (a : Int), .int .u16 (b : Int)] rfl ?_
       intro w1 g hG hgr hge
       have hb1 : Below w.heap.size w w1 := below_none (Below.refl _ _) hgr (Nat.le_refl _)
       clear hgr)
    | (with_reducible show wpList _ _ _ (⟨_, .load 45 _, _, _, _, _⟩ :: _) _ _
       refine wpList_load_blk rfl 45 _ rfl g rfl 45 _ _ hG Tryd.underlying45 rfl (by kernel_rfl) ?_)
    | (go_at_call 40; (with_reducible refine (cm.out _).mono ?_); rintro e w2 ⟨rfl, hb2⟩; replace hb2 := hb1.trans (hb2.mono hb1.size); clear hb1 hG hge)
    | (go_at_call 31; (with_reducible refine (c1.out _).mono ?_); rintro e w3 ⟨v8, rfl, ho8, hb8⟩
       have hG3 := (Blk.new w2 9 #[.string T]).callee hb8
       have hb3 := (hb2.alloc hb2.size (.cells #[.string T] 9)).trans (hb8.mono (by have := hb2.size; show _ ≤ (w2.heap.push _).size; simp; omega))
       have cg3 := hG3.cell 0
       have h8 := ho8.rn
       clear hb8 ho8)
    | (go_at_call 31; (with_reducible refine (c2.out _).mono ?_); rintro e w4 ⟨v10, rfl, ho10, hb10⟩
       have hG4 := hG3.callee hb10
       have hb4 := hb3.trans (hb10.mono hb3.size)
       have cg4 := hG4.cell 0
       have h8' := h8.next hb10
       have h10 := ho10.rn
       obtain ⟨A10, n10, rfl, hr10⟩ := ho10.reads
       clear hb10 ho10))
  go_loopw [12, 35] (fun m v wr => ∃ i : Nat, i ≤ T.size ∧ v = .int .i64 i ∧ m = .int .i64 ((T.size : Int) - i + endT 0 ((bts T).take i)) ∧ w4 = wr) (fun _ v _ => T.size - (intOf v).toNat)
  case atStart => exact ⟨0, by omega, rfl, by simp [endT], rfl⟩
  case round =>
    obtain ⟨i, hi, rfl, rfl, hw⟩ := hrel
    subst hw
    by_cases hlt : i < T.size
    · have hlti : (i : Int) < T.size := by omega
      have hat := bts_at T i hlt
      have het : endT 0 ((bts T).take (i + 1)) = stp (endT 0 ((bts T).take i)) T[i] := by rw [List.take_add_one, hat, Option.toList_some, end_snoc]
      have hbd := end_bound ((bts T).take i) 0
      rw [List.length_take, bts_len] at hbd
      obtain ⟨E, hE⟩ : ∃ E, endT 0 ((bts T).take i) = E := ⟨_, rfl⟩
      rw [hE] at het hbd ⊢
      rcases okT_at hokH.out (List.mem_of_getElem? hat) with hy | hy
      · rw [hy] at het
        have hN := Lib.hid (show (T.size : Int) - i + E = (T.size : Int) - (i + 1 : Nat) + endT 0 ((bts T).take (i + 1)) by rw [het, show stp E 99 = E + 1 from rfl]; omega)
        have hg : ((T[i].toNat : Int) == 110) = false := by rw [hy]; rfl
        clear hy hat het hE
        go_wp2_with (fail)
        go_roundw
        case rel => exact ⟨i + 1, by omega, by go_num, by rw [hN.out], by first | rfl | trivial⟩
        case measure => simp only [intOf]; omega
      · rw [hy] at het
        obtain ⟨F, hF⟩ : ∃ F, (T.size : Int) - i + E = F := ⟨_, rfl⟩
        have hN := Lib.hid (show F - 2 = (T.size : Int) - (i + 1 : Nat) + endT 0 ((bts T).take (i + 1)) by rw [het, show stp E 110 = E - 1 from rfl]; omega)
        have hFb : -100 ≤ F ∧ F ≤ 100 := by omega
        have hg : ((T[i].toNat : Int) == 110) = true := by rw [hy]; rfl
        rw [hF]
        clear hy hat het hE
        go_wp2_with (fail)
        go_roundw
        case rel => exact ⟨i + 1, by omega, by go_num, by rw [← hN.out], by first | rfl | trivial⟩
        case measure => simp only [intOf]; omega
    · have hlti : ¬ (i : Int) < T.size := by omega
      obtain rfl : i = T.size := by omega
      rw [List.take_of_length_le (by rw [bts_len]; omega)]
      obtain ⟨E, hE⟩ : ∃ E, endT 0 (bts T) = E := ⟨_, rfl⟩
      have hEe := Lib.hid (show (T.size : Int) - T.size + E = E by omega)
      have hmx := hkH.out
      rw [hE] at hmx
      have hmx1 : ((Y.length : Int) == max 0 E) = true := by rw [hmx]; simp
      rw [hE, hEe.out]
      clear hmx hE hkH
      go_wp2_with (fail)
      refine (cf1.out _ _ hG4).mono ?_
      rintro e w5 ⟨v5, rfl, ho5, hb5'⟩
      have hG5 := hG4.callee hb5'
      have h8a := h8'.next hb5'
      have h10a := h10.next hb5'
      have h5 := ho5.rn
      have hb5 := hb4.trans (hb5'.mono hb4.size)
      clear ho5
      go_wp2_with (first
        | (go_at_call 20; (with_reducible refine (same_rn h8a h5 hl1 hl1).mono ?_); rintro e w6 ⟨rfl, hb6⟩
           rw [beq_self_eq_true]
           have hG6 := hG5.callee hb6
           have hb6' := hb5.trans (hb6.mono hb5.size)
           have h10b := h10a.next hb6))
      refine (cf2.out _ _ hG6).mono ?_
      rintro e w7 ⟨v7, rfl, ho7, hb7'⟩
      have h10c := h10b.next hb7'
      have h7 := ho7.rn
      have hb7 := hb6'.trans (hb7'.mono hb6'.size)
      clear ho7
      go_wp2_with (first
        | (go_at_call 20; (with_reducible refine (same_rn h10c h7 hl2 hl2).mono ?_); rintro e w8 ⟨rfl, hb8⟩
           rw [beq_self_eq_true]
           have hb8' := hb7.trans (hb8.mono hb7.size))
        | (go_at_call 13; (with_reducible refine (works_any _).mono ?_); rintro e w9 ⟨rfl, hb9⟩; replace hb9 := hb8'.trans (hb9.mono hb8'.size)))
      go_ret
      exact ⟨rfl, hb9⟩
end Go.Proofs.YtfcfhiekkpflcaaDoor
