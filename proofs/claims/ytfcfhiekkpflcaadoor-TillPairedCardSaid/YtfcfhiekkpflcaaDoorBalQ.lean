/- Plain: what Number, At and First return of orders by numbers. -/
import Derived.Test.YtfcfhiekkpflcaaDoorOnes
import Derived.Test.YtfcfhiekkpflcaaDoorLawNeeded
namespace Go.Proofs.YtfcfhiekkpflcaaDoor
open Go.RowKit
section
variable {n N b x : Nat}
theorem spW_chk (hn : n ≤ 16) (x : Nat) : chkT (spW n x) = 0 := chk_of (by rw [spW_len]; omega) (spW_ok n x)
theorem spW_op (hn : n ≤ 16) (hb : b ≤ 20) (x : Nat) : opT (spW n x) b = 0 := op_in (spW_chk hn x) (by omega) (by omega)
theorem num_val (hn : n ≤ 16) (hb : b ≤ 20) (hx : x < 2 ^ n) (hg : gP n N b x = true) : numV (spW n x) b = (cG n N b x : Nat) ∧ coinE (spW n x) b = 0 := by
  have hg2 : pcW n x = N ∧ goodB (spW n x) b = true := by simpa [gP] using hg
  have hl := (good_iff _ _).1 hg2.2
  have ho := spW_op hn hb x
  have hc := count_both (spW_ok n x)
  have h1 : (spW n x).count 110 = N := hg2.1
  rw [h1, spW_len] at hc
  refine ⟨?_, (coin_good ho hl).2.1⟩
  unfold numV
  rw [if_pos ⟨ho, hl⟩, ← num_rank n N b x hx hg, spW_len]
  congr 1 <;> omega
theorem num_bad (hn : n ≤ 16) (hb : b ≤ 20) (hl : ¬ lacksT (spW n x) b < 0) : numV (spW n x) b = 0 ∧ coinE (spW n x) b = 14 := by
  refine ⟨?_, (coin_bad (spW_op hn hb x) hl).2.1⟩
  unfold numV
  rw [if_neg (fun h => hl h.2)]
theorem cnt_in (hn : n ≤ 16) (hN : N ≤ n) (hb : b ≤ 20) : cntE ((n : Int) - N) N b = 0 := by
  unfold cntE
  rw [if_neg (by omega), if_pos (by omega)]
theorem bal_all (hN : N ≤ n) : balT ((n : Int) - N) N b = (cG n N b (2 ^ n) : Nat) := by
  rw [cG_all, if_pos hN, show (n : Int) - N = ((n - N : Nat) : Int) by omega, bal_gd, show n - N + N = n by omega]
theorem at_val (hn : n ≤ 16) (hN : N ≤ n) (hb : b ≤ 20) (hx : x < 2 ^ n) (hg : gP n N b x = true) : atV ((n : Int) - N) N b (cG n N b x : Nat) = spW n x ∧ atE ((n : Int) - N) N b (cG n N b x : Nat) = 0 := by
  have hlt := rank_lt hx hg
  have hE : atE ((n : Int) - N) N b (cG n N b x : Nat) = 0 := by
    unfold atE
    rw [cnt_in hn hN hb, bal_all hN, if_neg (by omega), if_pos (by omega)]
  refine ⟨?_, hE⟩
  unfold atV
  rw [if_pos hE, show ((n : Int) - N).toNat = n - N by omega, Int.toNat_natCast, Int.toNat_natCast, Int.toNat_natCast, show n - N + N = n by omega, at_rank n N b x hx hg]
theorem at_out (hn : n ≤ 16) (hN : N ≤ n) (hb : b ≤ 20) : atE ((n : Int) - N) N b (cG n N b (2 ^ n) : Nat) = 1 := by
  unfold atE
  rw [cnt_in hn hN hb, bal_all hN, if_neg (by omega), if_neg (by omega)]
theorem fir_end (hn : n ≤ 16) (hN : N ≤ n) (hb : b ≤ 20) : firE ((n : Int) - N) N b = if cG n N b (2 ^ n) = 0 then 12 else 0 := by
  unfold firE
  rw [cnt_in hn hN hb, bal_all hN, if_neg (by omega)]
  by_cases h : cG n N b (2 ^ n) = 0
  · rw [h]; rfl
  · rw [if_neg (by omega), if_neg h]
theorem fir_val (hn : n ≤ 16) (hN : N ≤ n) (hb : b ≤ 20) (hx : x < 2 ^ n) (hg : gP n N b x = true) (h0 : cG n N b x = 0) : firV ((n : Int) - N) N b = spW n x ∧ firE ((n : Int) - N) N b = 0 := by
  have hlt := rank_lt hx hg
  have hE : firE ((n : Int) - N) N b = 0 := by rw [fir_end hn hN hb, if_neg (by omega)]
  refine ⟨?_, hE⟩
  unfold firV
  rw [if_pos hE, first_rank n N b x hx hg h0, show ((n : Int) - N).toNat = n - N by omega, Int.toNat_natCast]
theorem cnt_val (hn : n ≤ 16) (hN : N ≤ n) (hb : b ≤ 20) : cntV ((n : Int) - N) N b = (cG n N b (2 ^ n) : Nat) := by
  unfold cntV
  rw [if_pos (cnt_in hn hN hb), bal_all hN]
/-- the number that is wanted -/
theorem want_val (hN : N ≤ n) : ((cG n N b (2 ^ n) : Nat) : Int) = if (N : Int) ≤ (n : Int) - N + b then chI n N - chI n ((N : Int) - b - 1) else 0 := by
  rw [← bal_all hN]
  unfold balT
  by_cases h : (N : Int) ≤ (n : Int) - N + b
  · rw [if_pos h, if_neg (by omega), show ((n : Int) - N + N).toNat = n by omega]
  · rw [if_neg h, if_pos (by omega)]
theorem want_cat (h2 : 2 * N = n) : ((cG n N 0 (2 ^ n) : Nat) : Int) * ((N : Int) + 1) = chI n N := by
  subst h2
  rw [want_val (by omega), if_pos (by omega)]
  exact catalan N
theorem cG_next (h : gP n N b x = true) : cG n N b (x + 1) = cG n N b x + 1 := by
  unfold cG
  rw [cntP, h]; rfl
theorem cG_stay (h : gP n N b x = false) : cG n N b (x + 1) = cG n N b x := by
  unfold cG
  rw [cntP, h]; rfl
theorem pc_sixteen (hn : n ≤ 16) (hx : x < 2 ^ n) : pcW 16 x = pcW n x := by
  have := pc_more hx (16 - n)
  rwa [show n + (16 - n) = 16 by omega] at this
theorem gP_no (h : pcW n x ≠ N) : gP n N b x = false := by
  unfold gP
  rw [decide_eq_false h, Bool.false_and]
theorem gP_is (h : pcW n x = N) : gP n N b x = decide (lacksT (spW n x) b < 0) := by
  unfold gP
  rw [decide_eq_true h, Bool.true_and, Bool.eq_iff_iff, good_iff, decide_eq_true_iff]
end
end Go.Proofs.YtfcfhiekkpflcaaDoor
