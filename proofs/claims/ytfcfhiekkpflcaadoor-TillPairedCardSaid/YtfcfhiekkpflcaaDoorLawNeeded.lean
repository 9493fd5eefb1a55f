/- The law's TillNeeded. -/
import Derived.Test.YtfcfhiekkpflcaaDoorWorks
import Derived.Test.YtfcfhiekkpflcaaDoorMadeQ
namespace Go.Proofs.YtfcfhiekkpflcaaDoor
open Go.RowKit
theorem op_in {l : Word} {k : Int} (h : chkT l = 0) (h1 : 0 ≤ k) (h2 : k ≤ 20) : opT l k = 0 := by
  unfold opT
  rw [h]
  simp [h1, h2]
theorem chk_of {l : Word} (h1 : l.length ≤ 16) (h2 : okT l = true) : chkT l = 0 := by
  unfold chkT
  rw [if_neg (by omega), if_pos h2]
theorem coin_good {l : Word} {k : Int} (h : opT l k = 0) (h1 : lacksT l k < 0) : coinL l k = stepsT k l ∧ coinE l k = 0 ∧ lackV l k = 0 ∧ lackE l k = 12 := by
  unfold coinL coinE lackV lackE
  rw [h]
  refine ⟨?_, ?_, ?_, ?_⟩
  · simp [h1]
  · simp [h1]
  · rw [if_neg (by omega)]
  · simp [h1]
theorem coin_bad {l : Word} {k : Int} (h : opT l k = 0) (h1 : ¬ lacksT l k < 0) : coinL l k = [] ∧ coinE l k = 14 ∧ lackV l k = lacksT l k ∧ lackE l k = 0 := by
  unfold coinL coinE lackV lackE
  rw [h]
  refine ⟨?_, ?_, ?_, ?_⟩
  · simp [h1]
  · simp [h1]
  · rw [if_pos ⟨rfl, by omega⟩]
  · simp [h1]
/-- an order by numbers, as a letter -/
theorem que_letter (a b : Nat) : ∃ T : ByteArray, (⟨(queW b (a % 17)).toArray⟩ : ByteArray) = T ∧ T.size ≤ 16 ∧ okT (bts T) = true ∧ chkT (bts T) = 0 := by
  refine ⟨_, rfl, ?_, ?_, ?_⟩
  · rw [← bts_len, bts_mk, queW_len]; omega
  · rw [bts_mk, queW_ok]
  · rw [bts_mk]; exact chk_of (by rw [queW_len]; omega) (queW_ok _ _)
set_option maxRecDepth 100000 in
set_option maxHeartbeats 4000000 in
theorem needed_law (a b : Nat) (ha : a ≤ 255) (hb : b ≤ 65535) (w : World) : Calls Tryd.prog 8 #[.agg #[.int .u8 (a : Int), .int .u16 (b : Int)]] w fun e w' => e = .returned (.bool true) ∧ Below w.heap.size w w' := by
  have cm := Lib.hid (fun w' => made_any a b ha hb w')
  obtain ⟨T, hT, hT16, hok, hck⟩ := que_letter a b
  rw [hT] at cm
  have cn := Lib.hid (fun w' => Needs_any T w')
  rw [hck] at cn
  obtain ⟨N, hN⟩ : ∃ N, needV (bts T) = N := ⟨_, rfl⟩
  have hNn : needN (bts T) = N := by rw [← hN]; unfold needV needN; rw [if_pos hck]
  have hN0 := need_zero (bts T)
  have hN1 := need_le (bts T)
  have hni := Lib.hid (fun (k : Int) (hk : 0 ≤ k) => need_iff (bts T) k hk)
  rw [hN] at cn
  rw [hNn] at hN0 hN1 hni
  rw [bts_len] at hN1
  have hckH := Lib.hid hck
  have hokH := Lib.hid hok
  clear hT hN hNn hck hok ha hb
  go_enter Tryd.func8, Tryd.ntmps8
  go_wp2_with (first
    | (with_reducible show wpList _ _ _ (⟨_, .box 45 _, _, _, _, _⟩ :: _) _ _
       refine wpList_box_blk rfl 45 _ rfl #[.int .u8 (a : Int), .int .u16 (b : Int)] rfl ?_
       intro w1 g hG hgr hge
       have hb1 : Below w.heap.size w w1 := below_none (Below.refl _ _) hgr (Nat.le_refl _)
       clear hgr)
    | (with_reducible show wpList _ _ _ (⟨_, .load 45 _, _, _, _, _⟩ :: _) _ _
       refine wpList_load_blk rfl 45 _ rfl g rfl 45 _ _ hG Tryd.underlying45 rfl (by kernel_rfl) ?_)
    | (go_at_call 40; (with_reducible refine (cm.out _).mono ?_); rintro e w2 ⟨rfl, hb2⟩; replace hb2 := hb1.trans (hb2.mono hb1.size); clear hb1 hG hge)
    | (go_at_call 18; (with_reducible refine (cn.out _).mono ?_); rintro e w3 ⟨rfl, hb3⟩; replace hb3 := hb2.trans (hb3.mono hb2.size); clear hb2))
  go_loopw [6] (fun v wr => ∃ k : Nat, k ≤ 21 ∧ v = .int .i64 k ∧ Below w.heap.size w wr) (fun v _ => 21 - (intOf v).toNat)
  case atStart => exact ⟨0, by omega, rfl, hb3⟩
  case round =>
    obtain ⟨k, hk, rfl, hbe⟩ := hrel
    obtain ⟨wa, rfl⟩ : ∃ x, x = wr := ⟨wr, rfl⟩
    by_cases hlt : k ≤ 20
    · have hlti : (k : Int) ≤ 20 := by omega
      have hop := op_in hckH.out (by omega) hlti
      have c0 := Lib.hid (fun w' => run_any T k (by omega) (by omega) w')
      have c1 := Lib.hid (fun w' => Coins_any T k w')
      have c2 := Lib.hid (fun w' => Lacks_any T k w')
      obtain ⟨P, hP⟩ : ∃ P, stepsT k (bts T) = P := ⟨_, rfl⟩
      have hPl : P.length ≤ 1000000 := by rw [← hP, steps_len, bts_len]; omega
      have hkn := hni.out k (by omega)
      obtain ⟨M, hM⟩ : ∃ M, lacksT (bts T) k = M := ⟨_, rfl⟩
      by_cases hq : M < 0
      · obtain ⟨e1, e2, e3, e4⟩ := coin_good hop (by rw [hM]; exact hq)
        rw [e1, e2, hP] at c1
        rw [e3, e4] at c2
        rw [hP, hM] at c0
        rw [hM] at hkn
        have hNk : N ≤ (k : Int) := hkn.1 hq
        clear hkn e1 e2 e3 e4 hM hP hop
        go_wp2_with (first
          | (go_at_call 42; (with_reducible refine (c0.out _).mono ?_); rintro e w4 ⟨v4, rfl, ho4, hb4⟩; have h4 := ho4.rn; replace hb4 := hbe.trans (hb4.mono hbe.size); clear ho4)
          | (go_at_call 14; (with_reducible refine (c1.out _).mono ?_); rintro e w5 ⟨v5, rfl, ho5, hb5⟩; have h5 := ho5.rn; replace h4 := h4.next hb5; replace hb5 := hb4.trans (hb5.mono hb4.size); clear ho5)
          | (go_at_call 16; (with_reducible refine (c2.out _).mono ?_); rintro e w6 ⟨rfl, hb6⟩; replace h4 := h4.next hb6; replace h5 := h5.next hb6; replace hb6 := hb5.trans (hb6.mono hb5.size))
          | (go_at_call 20; (with_reducible refine (same_rn h5 h4 hPl hPl).mono ?_); rintro e w7 ⟨rfl, hb7⟩; rw [beq_self_eq_true]; replace hb7 := hb6.trans (hb7.mono hb6.size)))
        go_roundw
        case rel => exact ⟨k + 1, by omega, by go_num, hb7⟩
        case measure => simp only [intOf]; omega
      · obtain ⟨e1, e2, e3, e4⟩ := coin_bad hop (by rw [hM]; exact hq)
        rw [e1, e2] at c1
        rw [e3, e4, hM] at c2
        rw [hP, hM] at c0
        rw [hM] at hkn
        have hNk : ¬ N ≤ (k : Int) := fun h => hq (hkn.2 h)
        have hq2 : 0 ≤ M := by omega
        have hd1 : decide (M < 0) = false := decide_eq_false hq
        have hd2 : decide (N ≤ (k : Int)) = false := decide_eq_false hNk
        clear hkn e1 e2 e3 e4 hM hP hop
        go_wp2_with (first
          | (go_at_call 42; (with_reducible refine (c0.out _).mono ?_); rintro e w4 ⟨v4, rfl, ho4, hb4⟩; replace hb4 := hbe.trans (hb4.mono hbe.size); clear ho4)
          | (go_at_call 14; (with_reducible refine (c1.out _).mono ?_); rintro e w5 ⟨v5, rfl, ho5, hb5⟩; obtain ⟨A5, c5, hv5, _⟩ := ho5.reads; rw [List.length_nil] at hv5; subst hv5; replace hb5 := hb4.trans (hb5.mono hb4.size); clear ho5)
          | (go_at_call 16; (with_reducible refine (c2.out _).mono ?_); rintro e w6 ⟨rfl, hb6⟩; replace hb6 := hb5.trans (hb6.mono hb5.size)))
        go_roundw
        case rel => exact ⟨k + 1, by omega, by go_num, hb6⟩
        case measure => simp only [intOf]; omega
    · have hlti : ¬ (k : Int) ≤ 20 := by omega
      go_wp2_with (first
        | (go_at_call 13; (with_reducible refine (works_any _).mono ?_); rintro e w9 ⟨rfl, hb9⟩; replace hb9 := hbe.trans (hb9.mono hbe.size)))
      go_ret
      exact ⟨rfl, hb9⟩
end Go.Proofs.YtfcfhiekkpflcaaDoor
