/- choose, ballots, counted, Count, First. -/
import Derived.Test.YtfcfhiekkpflcaaDoorLacks
import Derived.Test.YtfcfhiekkpflcaaDoorBallot
namespace Go.Proofs.YtfcfhiekkpflcaaDoor
open Go.RowKit
theorem ch_facts {m i : Nat} (hm : m ≤ 16) : ∃ e : Int, ((ch m i : Nat) : Int) * ((m : Int) - i) = e ∧ -2000000 ≤ e ∧ e ≤ 2000000 ∧ 0 ≤ e ∧ e / ((i : Int) + 1) = (ch m (i + 1) : Nat) ∧ Int.tdiv e ((i : Int) + 1) = (ch m (i + 1) : Nat) := by
  refine ⟨_, rfl, ?_, ?_, ?_, ch_div, ?_⟩
  all_goals
    have h1 := ch_le m i
    have h2 : 2 ^ m ≤ 2 ^ 16 := Nat.pow_le_pow_right (by omega) hm
    have h3 : (2 : Nat) ^ 16 = 65536 := by decide
    have hp : 0 ≤ ((ch m i : Nat) : Int) * ((m : Int) - i) := by
      rcases Nat.lt_or_ge m i with h | h
      · rw [ch_none m i h]; simp
      · exact Int.mul_nonneg (by omega) (by omega)
  · omega
  · rcases Nat.lt_or_ge m i with h | h
    · rw [ch_none m i h]; simp
    · have h4 : ch m i * (m - i) ≤ 65536 * 16 := Nat.mul_le_mul (by omega) (by omega)
      rw [show (m : Int) - i = ((m - i : Nat) : Int) by omega, ← Int.natCast_mul]
      omega
  · exact hp
  · rw [Int.tdiv_eq_ediv_of_nonneg hp]; exact ch_div
set_option maxRecDepth 100000 in
set_option maxHeartbeats 4000000 in
theorem choose_any (m : Nat) (k : Int) (hm : m ≤ 16) (hk : k ≤ 100) (w : World) : Calls Tryd.prog 80 #[.int .i64 m, .int .i64 k] w fun e w' => e = .returned (.int .i64 (chI m k)) ∧ w' = w := by
  by_cases h0 : k < 0
  · have hR := Lib.hid (show chI m k = 0 by unfold chI; rw [if_pos h0])
    go_enter Tryd.func80, Tryd.ntmps80
    go_wp2_with (fail)
    go_ret
    exact ⟨by rw [hR.out]; rfl, rfl⟩
  · obtain ⟨j, rfl⟩ : ∃ j : Nat, k = j := ⟨k.toNat, by omega⟩
    have hR := Lib.hid (show chI m (j : Int) = (ch m j : Nat) by unfold chI; rw [if_neg h0]; simp)
    have hji : (j : Int) ≤ 100 := hk
    have hmi : (m : Int) ≤ 16 := by omega
    go_enter Tryd.func80, Tryd.ntmps80
    go_wp2_with (fail)
    go_loopw [5, 10] (fun o v wr => ∃ i : Nat, i ≤ j ∧ v = .int .i64 i ∧ o = .int .i64 (ch m i : Nat) ∧ w = wr) (fun _ v _ => j - (intOf v).toNat)
    case atStart => exact ⟨0, by omega, rfl, by rw [ch_zero]; rfl, rfl⟩
    case round =>
      obtain ⟨i, hi, rfl, rfl, rfl⟩ := hrel
      by_cases hlt : i < j
      · have hlti : (i : Int) < j := by omega
        obtain ⟨e, he, e1, e2, e3, e4, e5⟩ := ch_facts (m := m) (i := i) hm
        obtain ⟨f, hf⟩ : ∃ f : Nat, i + 1 = f := ⟨_, rfl⟩
        have hfi : (i : Int) + 1 = f := by omega
        rw [hf] at e4 e5
        rw [hfi] at e4 e5
        have hf0 : ¬ f = 0 := by omega
        have hf1 : ((f : Int) == 0) = false := by simp; omega
        obtain ⟨d, hd⟩ : ∃ d : Int, (m : Int) - i = d := ⟨_, rfl⟩
        rw [hd] at he
        have hdb : -100 ≤ d ∧ d ≤ 100 := by omega
        obtain ⟨hd1, hd2⟩ := hdb
        obtain ⟨C, hC⟩ : ∃ C, ch m i = C := ⟨_, rfl⟩
        obtain ⟨C2, hC2⟩ : ∃ C, ch m f = C := ⟨_, rfl⟩
        have hC2H := Lib.hid hC2
        have hC2b : (C2 : Int) ≤ 65536 := by
          have h1 := ch_le m f
          have h2 : 2 ^ m ≤ 2 ^ 16 := Nat.pow_le_pow_right (by omega) hm
          have h3 : (2 : Nat) ^ 16 = 65536 := by decide
          omega
        rw [hC] at he ⊢
        rw [hC2] at e4 e5
        clear hC hC2 hf
        go_wp2_with (fail)
        go_roundw
        case rel => exact ⟨f, by omega, by go_num, by rw [hC2H.out], by first | rfl | trivial⟩
        case measure => simp only [intOf]; omega
      · have hlti : ¬ (i : Int) < j := by omega
        obtain rfl : i = j := by omega
        go_wp2_with (fail)
        go_ret
        exact ⟨by rw [hR.out]; rfl, rfl⟩
set_option maxRecDepth 100000 in
set_option maxHeartbeats 4000000 in
theorem ballots_any (c n b : Int) (h1 : -10 ≤ c ∧ c ≤ 16) (h2 : -10 ≤ n ∧ n ≤ 16) (h3 : c + n ≤ 16) (h4 : -30 ≤ b ∧ b ≤ 60) (w : World) : Calls Tryd.prog 60 #[.int .i64 c, .int .i64 n, .int .i64 b] w fun e w' => e = .returned (.int .i64 (balT c n b)) ∧ w' = w := by
  by_cases hc : c < 0
  · have hR := Lib.hid (show balT c n b = 0 by unfold balT; rw [if_pos (Or.inl hc)])
    go_enter Tryd.func60, Tryd.ntmps60
    go_wp2_with (fail)
    go_ret
    exact ⟨by rw [hR.out]; rfl, rfl⟩
  · have hci : decide (c < 0) = false := by simp; omega
    by_cases hn : n < 0
    · have hR := Lib.hid (show balT c n b = 0 by unfold balT; rw [if_pos (Or.inr (Or.inl hn))])
      go_enter Tryd.func60, Tryd.ntmps60
      go_wp2_with (fail)
      go_ret
      exact ⟨by rw [hR.out]; rfl, rfl⟩
    · have hni : decide (n < 0) = false := by simp; omega
      obtain ⟨t, ht⟩ : ∃ t, c + b = t := ⟨_, rfl⟩
      by_cases hcb : t < n
      · have hR := Lib.hid (show balT c n b = 0 by unfold balT; rw [if_pos (Or.inr (Or.inr (by omega)))])
        go_enter Tryd.func60, Tryd.ntmps60
        go_wp2_with (fail)
        go_ret
        exact ⟨by rw [hR.out]; rfl, rfl⟩
      · have hti : decide (t < n) = false := by simp; omega
        obtain ⟨m, hm⟩ : ∃ m : Nat, c + n = m := ⟨(c + n).toNat, by omega⟩
        have hm16 : m ≤ 16 := by omega
        have hR := Lib.hid (show balT c n b = chI m n - chI m (n - b - 1) by unfold balT; rw [if_neg (by omega), hm]; rfl)
        obtain ⟨q, hq⟩ : ∃ q, n - b = q := ⟨_, rfl⟩
        obtain ⟨r, hr⟩ : ∃ r, q - 1 = r := ⟨_, rfl⟩
        rw [hq, hr] at hR
        have hA := Lib.hid (fun w' => choose_any m n hm16 (by omega) w')
        have hB := Lib.hid (fun w' => choose_any m r hm16 (by omega) w')
        obtain ⟨b1, b2⟩ := bal_bound hm16 n
        obtain ⟨b3, b4⟩ := bal_bound hm16 r
        obtain ⟨X, hX⟩ : ∃ X, chI m n = X := ⟨_, rfl⟩
        obtain ⟨Y, hY⟩ : ∃ Y, chI m r = Y := ⟨_, rfl⟩
        rw [hX, hY] at hR
        rw [hX] at hA b1 b2
        rw [hY] at hB b3 b4
        rw [hR.out]
        clear hX hY
        go_enter Tryd.func60, Tryd.ntmps60
        go_wp2_with (first
          | (go_at_call 80; (with_reducible refine (hA.out _).mono ?_); rintro e w1 ⟨rfl, rfl⟩)
          | (go_at_call 80; (with_reducible refine (hB.out _).mono ?_); rintro e w1 ⟨rfl, rfl⟩))
        go_ret
        exact ⟨rfl, rfl⟩
/-- the error of numbers of customers and coins -/
def cntE (c n b : Int) : Int := if c < 0 ∨ n < 0 ∨ 16 < c ∨ 16 < n ∨ 16 < c + n then 1 else if 0 ≤ b ∧ b ≤ 20 then 0 else 1
def cntV (c n b : Int) : Int := if cntE c n b = 0 then balT c n b else 0
theorem cntE_zero {c n b : Int} (h : cntE c n b = 0) : 0 ≤ c ∧ 0 ≤ n ∧ c + n ≤ 16 ∧ 0 ≤ b ∧ b ≤ 20 := by
  unfold cntE at h
  split at h
  · omega
  · split at h
    · omega
    · omega
set_option maxRecDepth 100000 in
set_option maxHeartbeats 4000000 in
theorem counted_any (c n b : Int) (w : World) : Calls Tryd.prog 55 #[.int .i64 c, .int .i64 n, .int .i64 b] w fun e w' => e = .returned (.tuple #[.int .i64 (cntV c n b), .int .i64 (cntE c n b)]) ∧ w' = w := by
  obtain ⟨mn, hmn⟩ : ∃ mn, min c n = mn := ⟨_, rfl⟩
  obtain ⟨mx, hmx⟩ : ∃ mx, max c n = mx := ⟨_, rfl⟩
  by_cases h1 : mn < 0
  · have hE := Lib.hid (show cntE c n b = 1 by unfold cntE; rw [if_pos (by omega)])
    have hV := Lib.hid (show cntV c n b = 0 by unfold cntV; rw [hE.out]; simp)
    rw [hE.out, hV.out]
    go_enter Tryd.func55, Tryd.ntmps55
    go_wp2_with (fail)
    go_ret2
    exact ⟨rfl, rfl⟩
  · have h1i : decide (mn < 0) = false := by simp; omega
    by_cases h2 : 16 < mx
    · have hE := Lib.hid (show cntE c n b = 1 by unfold cntE; rw [if_pos (by omega)])
      have hV := Lib.hid (show cntV c n b = 0 by unfold cntV; rw [hE.out]; simp)
      rw [hE.out, hV.out]
      go_enter Tryd.func55, Tryd.ntmps55
      go_wp2_with (fail)
      go_ret2
      exact ⟨rfl, rfl⟩
    · have h2i : decide (16 < mx) = false := by simp; omega
      have hcn : (0 ≤ c ∧ 0 ≤ n) ∧ (c ≤ 16 ∧ n ≤ 16) := by omega
      obtain ⟨⟨c0, n0⟩, c16, n16⟩ := hcn
      obtain ⟨t, ht⟩ : ∃ t, c + n = t := ⟨_, rfl⟩
      by_cases h3 : 16 < t
      · have hE := Lib.hid (show cntE c n b = 1 by unfold cntE; rw [if_pos (by omega)])
        have hV := Lib.hid (show cntV c n b = 0 by unfold cntV; rw [hE.out]; simp)
        rw [hE.out, hV.out]
        go_enter Tryd.func55, Tryd.ntmps55
        go_wp2_with (fail)
        go_ret2
        exact ⟨rfl, rfl⟩
      · have h3i : decide (16 < t) = false := by simp; omega
        obtain ⟨q, hq⟩ : ∃ q, decide ((0 : Int) ≤ b ∧ b ≤ 20) = q := ⟨_, rfl⟩
        have hqH := Lib.hid hq
        cases q with
        | true =>
          have hb : 0 ≤ b ∧ b ≤ 20 := by simpa using hq
          have hE := Lib.hid (show cntE c n b = 0 by unfold cntE; rw [if_neg (by omega), if_pos hb])
          have hV := Lib.hid (show cntV c n b = balT c n b by unfold cntV; rw [if_pos hE.out])
          have hbl := Lib.hid (fun w' => ballots_any c n b (by omega) (by omega) (by omega) (by omega) w')
          rw [hE.out, hV.out]
          clear hq
          go_enter Tryd.func55, Tryd.ntmps55
          go_wp2_with (first
            | (go_at_call 59; (with_reducible refine (between_any _ _ _ _).mono ?_); rintro e w2 ⟨rfl, rfl⟩; rw [hqH.out])
            | (go_at_call 60; (with_reducible refine (hbl.out _).mono ?_); rintro e w2 ⟨rfl, rfl⟩))
          go_ret2
          exact ⟨rfl, rfl⟩
        | false =>
          have hb : ¬ (0 ≤ b ∧ b ≤ 20) := by simpa using hq
          have hE := Lib.hid (show cntE c n b = 1 by unfold cntE; rw [if_neg (by omega), if_neg hb])
          have hV := Lib.hid (show cntV c n b = 0 by unfold cntV; rw [hE.out]; simp)
          rw [hE.out, hV.out]
          clear hq
          go_enter Tryd.func55, Tryd.ntmps55
          go_wp2_with (first
            | (go_at_call 59; (with_reducible refine (between_any _ _ _ _).mono ?_); rintro e w2 ⟨rfl, rfl⟩; rw [hqH.out]))
          go_ret2
          exact ⟨rfl, rfl⟩
set_option maxRecDepth 100000 in
set_option maxHeartbeats 1000000 in
theorem Count_any (c n b : Int) (w : World) : Calls Tryd.prog 23 #[.int .i64 c, .int .i64 n, .int .i64 b] w fun e w' => e = .returned (.tuple #[.int .i64 (cntV c n b), .int .i64 (cntE c n b)]) ∧ w' = w := by
  go_enter Tryd.func23, Tryd.ntmps23
  go_wp2_with (first
    | (go_at_call 55; (with_reducible refine (counted_any _ _ _ _).mono ?_); rintro e w2 ⟨rfl, rfl⟩))
  go_ret2
  exact ⟨rfl, rfl⟩
/-- what First returns -/
def firE (c n b : Int) : Int := if cntE c n b ≠ 0 then cntE c n b else if balT c n b = 0 then 12 else 0
def firV (c n b : Int) : Word := if firE c n b = 0 then List.replicate c.toNat 99 ++ List.replicate n.toNat 110 else []
theorem rep_one (x : UInt8) (k : Nat) : Lib.repeatL [x] k = List.replicate k x := by
  induction k with
  | zero => rfl
  | succ k ih => rw [Lib.repeatL, ih, List.replicate_succ]; rfl
set_option maxRecDepth 100000 in
set_option maxHeartbeats 4000000 in
theorem First_any (c n b : Int) (w : World) : Calls Tryd.prog 25 #[.int .i64 c, .int .i64 n, .int .i64 b] w fun e w' => e = .returned (.tuple #[.string ⟨(firV c n b).toArray⟩, .int .i64 (firE c n b)]) ∧ Below w.heap.size w w' := by
  obtain ⟨k, hk⟩ : ∃ k, cntE c n b = k := ⟨_, rfl⟩
  have hkH := Lib.hid hk
  by_cases h0 : k = 0
  · subst h0
    obtain ⟨q1, q2, q3, q4, q5⟩ := cntE_zero hk
    have hV := Lib.hid (show cntV c n b = balT c n b by unfold cntV; rw [if_pos hk])
    by_cases hz : balT c n b = 0
    · have hE := Lib.hid (show firE c n b = 12 by unfold firE; rw [if_neg (by simp [hk]), if_pos hz])
      have hW := Lib.hid (show firV c n b = [] by unfold firV; rw [hE.out]; rfl)
      have hzH := Lib.hid hz
      rw [hE.out, hW.out]
      clear hk hz
      go_enter Tryd.func25, Tryd.ntmps25
      go_wp2_with (first
        | (go_at_call 55; (with_reducible refine (counted_any _ _ _ _).mono ?_); rintro e w2 ⟨rfl, rfl⟩; rw [hV.out, hkH.out, hzH.out]))
      go_ret2
      exact ⟨rfl, Below.refl _ _⟩
    · have hE := Lib.hid (show firE c n b = 0 by unfold firE; rw [if_neg (by simp [hk]), if_neg hz])
      have hW := Lib.hid (show firV c n b = List.replicate c.toNat 99 ++ List.replicate n.toNat 110 by unfold firV; rw [if_pos hE.out])
      obtain ⟨z, hze⟩ : ∃ z, balT c n b = z := ⟨_, rfl⟩
      have hzH := Lib.hid hze
      rw [hze] at hz
      have hz0 : (z == 0) = false := by simp [hz]
      obtain ⟨C, rfl⟩ : ∃ C : Nat, c = C := ⟨c.toNat, by omega⟩
      obtain ⟨N, rfl⟩ : ∃ N : Nat, n = N := ⟨n.toNat, by omega⟩
      have hA := Lib.hid (fun w' => Tryd.strings_Repeat ⟨#[99]⟩ C w' (by omega) (by show 1 * C ≤ _; omega))
      have hB := Lib.hid (fun w' => Tryd.strings_Repeat ⟨#[110]⟩ N w' (by omega) (by show 1 * N ≤ _; omega))
      obtain ⟨X, hX⟩ : ∃ X : ByteArray, (⟨(Lib.repeatL (⟨#[99]⟩ : ByteArray).data.toList C).toArray⟩ : ByteArray) = X := ⟨_, rfl⟩
      obtain ⟨Y, hY⟩ : ∃ Y : ByteArray, (⟨(Lib.repeatL (⟨#[110]⟩ : ByteArray).data.toList N).toArray⟩ : ByteArray) = Y := ⟨_, rfl⟩
      rw [hX] at hA
      rw [hY] at hB
      have hXb : bts X = List.replicate C 99 := by rw [← hX, bts_mk, ← rep_one]
      have hYb : bts Y = List.replicate N 110 := by rw [← hY, bts_mk, ← rep_one]
      have hXs : (X.size : Int) ≤ 8388608 := by rw [← bts_len, hXb, List.length_replicate]; omega
      have hYs : (Y.size : Int) ≤ 8388608 := by rw [← bts_len, hYb, List.length_replicate]; omega
      have hadd : ∀ w', (Op.stringOp .add X Y).run Tryd.prog w' = .ok (.string (X ++ Y)) w' := fun w' => run_string_add w' X Y hXs hYs
      have hXY := Lib.hid (show (⟨(firV (C : Int) (N : Int) b).toArray⟩ : ByteArray) = X ++ Y from bts_inj (by rw [bts_mk, bts_append, hXb, hYb, hW.out]; simp))
      rw [hE.out, hXY.out]
      clear hk hze hX hY hXb hYb hXs hYs
      go_enter Tryd.func25, Tryd.ntmps25
      go_wp2_with (first
        | (go_at_call 55; (with_reducible refine (counted_any _ _ _ _).mono ?_); rintro e w2 ⟨rfl, rfl⟩; rw [hV.out, hkH.out, hzH.out])
        | (go_at_call 58; (with_reducible refine (hA.out _).mono ?_); rintro e w3 ⟨rfl, hb3⟩)
        | (go_at_call 58; (with_reducible refine (hB.out _).mono ?_); rintro e w4 ⟨rfl, hb4⟩))
      go_ret2
      exact ⟨rfl, hb3.trans (hb4.mono hb3.size)⟩
  · have hE := Lib.hid (show firE c n b = k by unfold firE; rw [hk, if_pos h0])
    have hW := Lib.hid (show firV c n b = [] by unfold firV; rw [hE.out, if_neg h0])
    have hk0 : (k != 0) = true := by simp [h0]
    rw [hE.out, hW.out]
    clear hk
    go_enter Tryd.func25, Tryd.ntmps25
    go_wp2_with (first
      | (go_at_call 55; (with_reducible refine (counted_any _ _ _ _).mono ?_); rintro e w2 ⟨rfl, rfl⟩; rw [hkH.out]))
    go_ret2
    exact ⟨rfl, Below.refl _ _⟩
end Go.Proofs.YtfcfhiekkpflcaaDoor
