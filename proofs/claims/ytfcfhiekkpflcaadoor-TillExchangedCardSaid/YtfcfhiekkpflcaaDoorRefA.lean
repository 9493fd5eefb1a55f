/- The reference's Check, begun, after, lacks, good; Coins, Lacks, Needs. -/
import Derived.Test.YtfcfhiekkpflcaaDoorSame
import Derived.Test.YtfcfhiekkpflcaaDoorPlainA
namespace Go.Proofs.YtfcfhiekkpflcaaDoor
open Go.RowKit
theorem okT_take {l : Word} {k : Nat} {y : UInt8} (h : l[k]? = some y) : okT (l.take (k + 1)) = (okT (l.take k) && (y == 99 || y == 110)) := by
  unfold okT
  rw [List.take_add_one, h, Option.toList_some, List.all_append]
  simp
theorem u8_int (y : UInt8) (k : Nat) (h : y.toNat = k) : ((y.toNat : Int) == (k : Int)) = true := by simp [h]
set_option maxRecDepth 100000 in
set_option maxHeartbeats 4000000 in
theorem rCheck_any (s : ByteArray) (w : World) : Calls Tryd.prog 22 #[.string s] w fun e w' => e = .returned (.int .i64 (chkT (bts s))) ∧ w' = w := by
  by_cases h16 : 16 < s.size
  · have hR := Lib.hid (show chkT (bts s) = 3 by unfold chkT; rw [bts_len, if_pos h16])
    have hi : (16 : Int) < s.size := by omega
    clear h16
    go_enter Tryd.func22, Tryd.ntmps22
    go_wp2_with (fail)
    go_ret
    exact ⟨by rw [hR.out]; rfl, rfl⟩
  · have hi : ¬ (16 : Int) < s.size := by omega
    have hR := Lib.hid (show chkT (bts s) = if okT (bts s) then 0 else 10 by unfold chkT; rw [bts_len, if_neg h16])
    go_enter Tryd.func22, Tryd.ntmps22
    go_wp2_with (fail)
    go_loopw [3] (fun v wr => ∃ k : Nat, k ≤ s.size ∧ v = .int .i64 k ∧ Hid (okT ((bts s).take k) = true) ∧ w = wr) (fun v _ => s.size - (intOf v).toNat)
    case atStart => exact ⟨0, by omega, rfl, Lib.hid rfl, rfl⟩
    case round =>
      obtain ⟨k, hk, rfl, hO, rfl⟩ := hrel
      by_cases hlt : k < s.size
      · have hlti : (k : Int) < s.size := by omega
        have hst := okT_take (bts_at s k hlt)
        rw [hO.out, Bool.true_and] at hst
        by_cases h99 : s[k] = 99
        · have hg : ((s[k].toNat : Int) != 99) = false := by rw [h99]; rfl
          have hN := Lib.hid (show okT ((bts s).take (k + 1)) = true by rw [hst, h99]; rfl)
          clear hst h99
          go_wp2_with (fail)
          go_roundw
          case rel => exact ⟨k + 1, by omega, by go_num, hN, by first | rfl | trivial⟩
          case measure => simp only [intOf]; omega
        · have hg : ((s[k].toNat : Int) != 99) = true := by
            simp only [bne_iff_ne, ne_eq]
            intro h
            exact h99 (UInt8.toNat_inj.1 (by show s[k].toNat = 99; omega))
          by_cases h110 : s[k] = 110
          · have hg2 : ((s[k].toNat : Int) != 110) = false := by rw [h110]; rfl
            have hN := Lib.hid (show okT ((bts s).take (k + 1)) = true by rw [hst, h110]; rfl)
            clear hst h99 h110
            go_wp2_with (fail)
            go_roundw
            case rel => exact ⟨k + 1, by omega, by go_num, hN, by first | rfl | trivial⟩
            case measure => simp only [intOf]; omega
          · have hg2 : ((s[k].toNat : Int) != 110) = true := by
              simp only [bne_iff_ne, ne_eq]
              intro h
              exact h110 (UInt8.toNat_inj.1 (by show s[k].toNat = 110; omega))
            have hN := Lib.hid (show chkT (bts s) = 10 by
              rw [hR.out, if_neg]
              intro hok
              rcases okT_at hok (List.mem_of_getElem? (bts_at s k hlt)) with h | h
              · exact h99 h
              · exact h110 h)
            clear hst h99 h110
            go_wp2_with (fail)
            go_ret
            exact ⟨by rw [hN.out]; rfl, rfl⟩
      · have hlti : ¬ (k : Int) < s.size := by omega
        have hN := Lib.hid (show chkT (bts s) = 0 by
          have := hO.out
          rw [List.take_of_length_le (by rw [bts_len]; omega)] at this
          rw [hR.out, if_pos this])
        go_wp2_with (fail)
        go_ret
        exact ⟨by rw [hN.out]; rfl, rfl⟩
set_option maxRecDepth 100000 in
set_option maxHeartbeats 1000000 in
theorem rin_any (a b c : Int) (w : World) : Calls Tryd.prog 63 #[.int .i64 b, .int .i64 a, .int .i64 c] w fun e w' => e = .returned (.bool (decide (a ≤ b ∧ b ≤ c))) ∧ w' = w := by
  by_cases h1 : a ≤ b
  · by_cases h2 : b ≤ c
    · have hR := Lib.hid (show decide (a ≤ b ∧ b ≤ c) = true by simp [h1, h2])
      go_enter Tryd.func63, Tryd.ntmps63
      go_wp2_with (fail)
      go_ret
      exact ⟨by first | rfl | (rw [hR.out]; rfl), rfl⟩
    · have hR := Lib.hid (show decide (a ≤ b ∧ b ≤ c) = false by simp [h2])
      have h3 : decide (b ≤ c) = false := by simp [h2]
      go_enter Tryd.func63, Tryd.ntmps63
      go_wp2_with (fail)
      go_ret
      exact ⟨by first | rfl | (rw [hR.out]; rfl), rfl⟩
  · have hR := Lib.hid (show decide (a ≤ b ∧ b ≤ c) = false by simp [h1])
    have h3 : decide (a ≤ b) = false := by simp [h1]
    go_enter Tryd.func63, Tryd.ntmps63
    go_wp2_with (fail)
    go_ret
    exact ⟨by first | rfl | (rw [hR.out]; rfl), rfl⟩
set_option maxRecDepth 100000 in
set_option maxHeartbeats 1000000 in
theorem begun_any (s : ByteArray) (b : Int) (w : World) : Calls Tryd.prog 52 #[.string s, .int .i64 b] w fun e w' => e = .returned (.int .i64 (opT (bts s) b)) ∧ w' = w := by
  obtain ⟨k, hk⟩ : ∃ k, chkT (bts s) = k := ⟨_, rfl⟩
  have hkH := Lib.hid hk
  by_cases h0 : k = 0
  · subst h0
    obtain ⟨q, hq⟩ : ∃ q, decide ((0 : Int) ≤ b ∧ b ≤ 20) = q := ⟨_, rfl⟩
    have hqH := Lib.hid hq
    have hR := Lib.hid (show opT (bts s) b = if q then 0 else 1 by unfold opT; rw [if_neg (by simp [hk]), ← hq]; simp only [decide_eq_true_eq])
    clear hk hq
    cases q with
    | true =>
      go_enter Tryd.func52, Tryd.ntmps52
      go_wp2_with (first
        | (go_at_call 22; (with_reducible refine (rCheck_any _ _).mono ?_); rintro e wz ⟨rfl, hwz⟩; replace hwz := hwz.symm; subst hwz; rw [hkH.out])
        | (go_at_call 63; (with_reducible refine (rin_any _ _ _ _).mono ?_); rintro e w2 ⟨rfl, rfl⟩; rw [hqH.out]))
      go_ret
      exact ⟨by rw [hR.out]; rfl, rfl⟩
    | false =>
      go_enter Tryd.func52, Tryd.ntmps52
      go_wp2_with (first
        | (go_at_call 22; (with_reducible refine (rCheck_any _ _).mono ?_); rintro e wz ⟨rfl, hwz⟩; replace hwz := hwz.symm; subst hwz; rw [hkH.out])
        | (go_at_call 63; (with_reducible refine (rin_any _ _ _ _).mono ?_); rintro e w2 ⟨rfl, rfl⟩; rw [hqH.out]))
      go_ret
      exact ⟨by rw [hR.out]; rfl, rfl⟩
  · have hR := Lib.hid (show opT (bts s) b = k by unfold opT; rw [hk, if_pos h0])
    have hk0 : (k == 0) = false := by simp [h0]
    clear hk
    go_enter Tryd.func52, Tryd.ntmps52
    go_wp2_with (first
      | (go_at_call 22; (with_reducible refine (rCheck_any _ _).mono ?_); rintro e wz ⟨rfl, hwz⟩; replace hwz := hwz.symm; subst hwz; rw [hkH.out]))
    go_ret
    exact ⟨by rw [hR.out]; rfl, rfl⟩
set_option maxRecDepth 100000 in
set_option maxHeartbeats 4000000 in
theorem after_any (s : ByteArray) (b : Int) (m : Nat) (hs : s.size ≤ 1000) (hm : m ≤ s.size) (hb : -1000000 ≤ b ∧ b ≤ 1000000) (w : World) : Calls Tryd.prog 51 #[.string s, .int .i64 b, .int .i64 m] w fun e w' => e = .returned (.int .i64 (endT b ((bts s).take m))) ∧ w' = w := by
  go_enter Tryd.func51, Tryd.ntmps51
  go_wp2_with (fail)
  go_loopw [1, 7] (fun v u wr => ∃ (i : Nat) (x : Int), i ≤ m ∧ v = .int .i64 x ∧ u = .int .i64 i ∧ Hid (x = endT b ((bts s).take i)) ∧ w = wr) (fun _ u _ => m - (intOf u).toNat)
  case atStart => exact ⟨0, b, by omega, rfl, rfl, Lib.hid rfl, rfl⟩
  case round =>
    obtain ⟨i, x, hi, rfl, rfl, hx, rfl⟩ := hrel
    have hbd := end_bound ((bts s).take i) b
    rw [← hx.out, List.length_take, bts_len] at hbd
    by_cases hlt : i < m
    · have hlti : (i : Int) < m := by omega
      have hls : i < s.size := by omega
      have hst : endT b ((bts s).take (i + 1)) = stp x s[i] := by rw [List.take_add_one, bts_at s i hls, Option.toList_some, end_snoc, ← hx.out]
      obtain ⟨hb1, hb2⟩ := hbd
      by_cases h99 : s[i] = 99
      · have hg : ((s[i].toNat : Int) == 99) = true := by rw [h99]; rfl
        obtain ⟨x1, hx1⟩ : ∃ x1, x + 1 = x1 := ⟨_, rfl⟩
        have hN := Lib.hid (show x1 = endT b ((bts s).take (i + 1)) by rw [hst, h99, ← hx1]; rfl)
        clear hst h99
        go_wp2_with (fail)
        go_roundw
        case rel => exact ⟨i + 1, x1, by omega, rfl, by go_num, hN, by first | rfl | trivial⟩
        case measure => simp only [intOf]; omega
      · have hg : ((s[i].toNat : Int) == 99) = false := by
          simp only [beq_eq_false_iff_ne, ne_eq]
          intro h
          exact h99 (UInt8.toNat_inj.1 (by show s[i].toNat = 99; omega))
        obtain ⟨x1, hx1⟩ : ∃ x1, x - 1 = x1 := ⟨_, rfl⟩
        have hN := Lib.hid (show x1 = endT b ((bts s).take (i + 1)) by rw [hst, ← hx1]; unfold stp; rw [if_neg h99])
        clear hst h99
        go_wp2_with (fail)
        go_roundw
        case rel => exact ⟨i + 1, x1, by omega, rfl, by go_num, hN, by first | rfl | trivial⟩
        case measure => simp only [intOf]; omega
    · have hlti : ¬ (i : Int) < m := by omega
      obtain rfl : i = m := by omega
      go_wp2_with (fail)
      go_ret
      exact ⟨by rw [← hx.out]; rfl, rfl⟩
set_option maxRecDepth 100000 in
set_option maxHeartbeats 4000000 in
theorem rlacks_any (s : ByteArray) (b : Int) (hs : s.size ≤ 1000) (hb : -1000000 ≤ b ∧ b ≤ 1000000) (w : World) :
    Calls Tryd.prog 53 #[.string s, .int .i64 b] w fun e w' => e = .returned (.int .i64 (lacksT (bts s) b)) ∧ w' = w := by
  obtain ⟨R, hR⟩ : ∃ R, lacksT (bts s) b = R := ⟨_, rfl⟩
  have hRH := Lib.hid (show negI ((stepsT b (bts s)).drop 0) 0 = R from hR)
  rw [hR]
  clear hR
  go_enter Tryd.func53, Tryd.ntmps53
  go_wp2_with (fail)
  go_loopw [5] (fun v wr => ∃ i : Nat, i ≤ s.size ∧ v = .int .i64 i ∧ Hid (negI ((stepsT b (bts s)).drop i) i = R) ∧ w = wr) (fun v _ => s.size - (intOf v).toNat)
  case atStart => exact ⟨0, by omega, rfl, hRH, rfl⟩
  case round =>
    obtain ⟨i, hin, rfl, hL, rfl⟩ := hrel
    by_cases hlt : i < s.size
    · have hlti : (i : Int) < s.size := by omega
      have hx := steps_get (bts s) b i (by rw [bts_len]; exact hlt)
      obtain ⟨x, hxe⟩ : ∃ x, endT b ((bts s).take (i + 1)) = x := ⟨_, rfl⟩
      rw [hxe] at hx
      obtain ⟨j, hj⟩ : ∃ j : Nat, (i : Int) + 1 = j := ⟨i + 1, by omega⟩
      have hjw : IntKind.i64.wrap (j : Int) = j := by rw [IntKind.wrap_i64]; omega
      have haf := Lib.hid (show Calls Tryd.prog 51 #[.string s, .int .i64 b, .int .i64 j] w fun e w' => e = .returned (.int .i64 x) ∧ w' = w from (after_any s b j hs (by omega) hb w).mono (by
        rintro e w' ⟨rfl, h⟩
        exact ⟨by rw [← hxe, show i + 1 = j by omega], h⟩))
      have hst := negI_step hx
      rw [hL.out] at hst
      clear hxe
      by_cases hq : x < 0
      · have hN := Lib.hid (show R = (i : Int) by rw [hst, if_pos hq])
        clear hst hx
        go_wp2_with (first
          | (go_at_call 51; (with_reducible refine haf.out.mono ?_); rintro e w1 ⟨rfl, rfl⟩))
        go_ret
        exact ⟨by rw [hN.out]; rfl, rfl⟩
      · have hN := Lib.hid (show negI ((stepsT b (bts s)).drop (i + 1)) (i + 1) = R by rw [hst, if_neg hq])
        clear hst hx
        go_wp2_with (first
          | (go_at_call 51; (with_reducible refine haf.out.mono ?_); rintro e w1 ⟨rfl, rfl⟩))
        go_roundw
        case rel =>
          exact ⟨i + 1, by omega, by go_num, hN, by first | rfl | trivial⟩
        case measure => simp only [intOf]; omega
    · have hlti : ¬ (i : Int) < s.size := by omega
      have hN := Lib.hid (show R = -1 by rw [← hL.out, List.drop_of_length_le (by rw [steps_len, bts_len]; omega)]; rfl)
      go_wp2_with (fail)
      go_ret
      exact ⟨by rw [hN.out]; rfl, rfl⟩
set_option maxRecDepth 100000 in
set_option maxHeartbeats 4000000 in
theorem good_any (s : ByteArray) (b : Int) (w : World) : Calls Tryd.prog 50 #[.string s, .int .i64 b] w fun e w' => e = .returned (.int .i64 (coinE (bts s) b)) ∧ w' = w := by
  obtain ⟨k, hk⟩ : ∃ k, opT (bts s) b = k := ⟨_, rfl⟩
  have hkH := Lib.hid hk
  by_cases h0 : k = 0
  · subst h0
    obtain ⟨h1, h2, h3⟩ := opT_zero hk
    obtain ⟨h4, h5⟩ := chkT_zero h1
    rw [bts_len] at h4
    obtain ⟨n, hn⟩ : ∃ n, lacksT (bts s) b = n := ⟨_, rfl⟩
    have hlk := Lib.hid (fun w' => rlacks_any s b (by omega) (by omega) w')
    rw [hn] at hlk
    by_cases hq : n < 0
    · have hR := Lib.hid (show coinE (bts s) b = 0 by unfold coinE; rw [hk, hn]; simp [hq])
      have hqi : ¬ (0 : Int) ≤ n := by omega
      clear hk hn h1 h5
      go_enter Tryd.func50, Tryd.ntmps50
      go_wp2_with (first
        | (go_at_call 52; (with_reducible refine (begun_any _ _ _).mono ?_); rintro e wz ⟨rfl, hwz⟩; replace hwz := hwz.symm; subst hwz; rw [hkH.out])
        | (go_at_call 53; (with_reducible refine (hlk.out _).mono ?_); rintro e w2 ⟨rfl, rfl⟩))
      go_ret
      exact ⟨by rw [hR.out]; rfl, rfl⟩
    · have hR := Lib.hid (show coinE (bts s) b = 14 by unfold coinE; rw [hk, hn]; simp [hq])
      have hqi : (0 : Int) ≤ n := by omega
      clear hk hn h1 h5
      go_enter Tryd.func50, Tryd.ntmps50
      go_wp2_with (first
        | (go_at_call 52; (with_reducible refine (begun_any _ _ _).mono ?_); rintro e wz ⟨rfl, hwz⟩; replace hwz := hwz.symm; subst hwz; rw [hkH.out])
        | (go_at_call 53; (with_reducible refine (hlk.out _).mono ?_); rintro e w2 ⟨rfl, rfl⟩))
      go_ret
      exact ⟨by rw [hR.out]; rfl, rfl⟩
  · have hR := Lib.hid (show coinE (bts s) b = k by unfold coinE; rw [hk]; simp [h0])
    have hk0 : (k == 0) = false := by simp [h0]
    clear hk
    go_enter Tryd.func50, Tryd.ntmps50
    go_wp2_with (first
      | (go_at_call 52; (with_reducible refine (begun_any _ _ _).mono ?_); rintro e wz ⟨rfl, hwz⟩; replace hwz := hwz.symm; subst hwz; rw [hkH.out]))
    go_ret
    exact ⟨by rw [hR.out]; rfl, rfl⟩
theorem coinE_zero {l : Word} {b : Int} (h : coinE l b = 0) : opT l b = 0 ∧ lacksT l b < 0 := by
  unfold coinE at h
  split at h
  · contradiction
  · rename_i h0
    split at h
    · rename_i h1; exact ⟨by simpa using h0, h1⟩
    · omega
set_option maxRecDepth 100000 in
set_option maxHeartbeats 4000000 in
theorem rCoins_any (s : ByteArray) (b : Int) (w : World) : Calls Tryd.prog 15 #[.string s, .int .i64 b] w (RetIE (coinL (bts s) b) (coinE (bts s) b) w) := by
  obtain ⟨k, hk⟩ : ∃ k, coinE (bts s) b = k := ⟨_, rfl⟩
  have hkH := Lib.hid hk
  rw [hk]
  by_cases h0 : k = 0
  · subst h0
    obtain ⟨hk0, hk1⟩ := coinE_zero hk
    obtain ⟨h1, h2, h3⟩ := opT_zero hk0
    obtain ⟨h4, h5⟩ := chkT_zero h1
    rw [bts_len] at h4
    have hR := Lib.hid (show coinL (bts s) b = stepsT b (bts s) by unfold coinL; rw [if_pos ⟨hk0, hk1⟩])
    have haf := Lib.hid (fun (i : Nat) (hi : i ≤ s.size) w' => after_any s b i (by omega) hi (by omega) w')
    rw [hR.out]
    clear hk hk0 hk1 h1 h5
    go_enter Tryd.func15, Tryd.ntmps15
    go_wp2_with (first
      | (go_at_call 50; (with_reducible refine (good_any _ _ _).mono ?_); rintro e wz ⟨rfl, hwz⟩; replace hwz := hwz.symm; subst hwz; rw [hkH.out]))
    go_loopw [7, 8] (fun o v wr => ∃ i : Nat, i ≤ s.size ∧ v = .int .i64 i ∧ OwnI wr w.heap.size o (stepsT b ((bts s).take i)) ∧ Below w.heap.size w wr) (fun _ v _ => s.size - (intOf v).toNat)
    case atStart => exact ⟨0, by omega, rfl, OwnI.nil _ _, Below.refl _ _⟩
    case round =>
      obtain ⟨i, hi, rfl, ho, hbe⟩ := hrel
      by_cases hlt : i < s.size
      · have hlti : (i : Int) < s.size := by omega
        obtain ⟨x, hx⟩ : ∃ x, endT b ((bts s).take (i + 1)) = x := ⟨_, rfl⟩
        obtain ⟨j, hj⟩ : ∃ j : Nat, (i : Int) + 1 = j := ⟨i + 1, by omega⟩
        have hjw : IntKind.i64.wrap (j : Int) = j := by rw [IntKind.wrap_i64]; omega
        have haf2 := Lib.hid (show Calls Tryd.prog 51 #[.string s, .int .i64 b, .int .i64 j] wr fun e w' => e = .returned (.int .i64 x) ∧ w' = wr from (haf.out j (by omega) wr).mono (by
          rintro e w' ⟨rfl, h⟩
          exact ⟨by rw [← hx, show i + 1 = j by omega], h⟩))
        have hst := Lib.hid (show stepsT b ((bts s).take (i + 1)) = stepsT b ((bts s).take i) ++ [x] by
          rw [List.take_add_one, bts_at s i hlt, Option.toList_some] at hx ⊢
          rw [steps_snoc, ← hx, end_snoc])
        have hpl : (stepsT b ((bts s).take i)).length ≤ 1000000000 := by rw [steps_len, List.length_take, bts_len]; omega
        obtain ⟨P, hP⟩ : ∃ P, stepsT b ((bts s).take i) = P := ⟨_, rfl⟩
        rw [hP] at hst hpl ho
        clear hx hP
        go_wp2_with (first
          | (go_at_call 51; (with_reducible refine haf2.out.mono ?_); rintro e wz ⟨rfl, hwz⟩; replace hwz := hwz.symm; subst hwz)
          | (at_builtin
             refine wpList_push rfl _ _ rfl rfl (ho.none_ (World.grownBy_alloc wr _ none)) wr.heap.size 1 x rfl (Blk.new wr _ _) hpl (by have := hbe.size; show _ ≤ (wr.heap.push _).size; simp; omega) ?_
             intro g6 cap6 w6 ho6 hgr6 _ _
             have hb6 := (hbe.alloc hbe.size (.cells #[.int .i64 x] 3)).grown hgr6 (by have := hbe.size; show _ ≤ (wr.heap.push _).size; simp; omega) (fun g hg => ho.ge hg)))
        go_roundw
        case rel => exact ⟨i + 1, by omega, by go_num, by rw [hst.out]; simpa [OwnI] using ho6, hb6⟩
        case measure => simp only [intOf]; omega
      · have hlti : ¬ (i : Int) < s.size := by omega
        rw [List.take_of_length_le (by rw [bts_len]; omega)] at ho
        go_wp2_with (fail)
        go_ret2
        exact ⟨_, rfl, ho, hbe⟩
  · have hR := Lib.hid (show coinL (bts s) b = [] by
      unfold coinL
      rw [if_neg]
      rintro ⟨h1, h2⟩
      unfold coinE at hk
      rw [if_neg (by simp [h1]), if_pos h2] at hk
      exact h0 hk.symm)
    have hk0 : (k != 0) = true := by simp [h0]
    rw [hR.out]
    clear hk
    go_enter Tryd.func15, Tryd.ntmps15
    go_wp2_with (first
      | (go_at_call 50; (with_reducible refine (good_any _ _ _).mono ?_); rintro e wz ⟨rfl, hwz⟩; replace hwz := hwz.symm; subst hwz; rw [hkH.out]))
    go_ret2
    exact ⟨_, rfl, OwnI.nil _ _, Below.refl _ _⟩
set_option maxRecDepth 100000 in
set_option maxHeartbeats 4000000 in
theorem rLacks_any (s : ByteArray) (b : Int) (w : World) : Calls Tryd.prog 17 #[.string s, .int .i64 b] w fun e w' => e = .returned (.tuple #[.int .i64 (lackV (bts s) b), .int .i64 (lackE (bts s) b)]) ∧ w' = w := by
  obtain ⟨k, hk⟩ : ∃ k, opT (bts s) b = k := ⟨_, rfl⟩
  have hkH := Lib.hid hk
  by_cases h0 : k = 0
  · subst h0
    obtain ⟨h1, h2, h3⟩ := opT_zero hk
    obtain ⟨h4, h5⟩ := chkT_zero h1
    rw [bts_len] at h4
    obtain ⟨n, hn⟩ : ∃ n, lacksT (bts s) b = n := ⟨_, rfl⟩
    have hlk := Lib.hid (fun w' => rlacks_any s b (by omega) (by omega) w')
    rw [hn] at hlk
    by_cases hq : n < 0
    · have hR := Lib.hid (show lackV (bts s) b = 0 ∧ lackE (bts s) b = 12 by unfold lackV lackE; rw [hk, hn]; exact ⟨if_neg (by omega), by simp [hq]⟩)
      clear hk hn h1 h5
      rw [hR.out.1, hR.out.2]
      go_enter Tryd.func17, Tryd.ntmps17
      go_wp2_with (first
        | (go_at_call 52; (with_reducible refine (begun_any _ _ _).mono ?_); rintro e wz ⟨rfl, hwz⟩; replace hwz := hwz.symm; subst hwz; rw [hkH.out])
        | (go_at_call 53; (with_reducible refine (hlk.out _).mono ?_); rintro e w2 ⟨rfl, rfl⟩))
      go_ret2
      exact ⟨rfl, rfl⟩
    · have hR := Lib.hid (show lackV (bts s) b = n ∧ lackE (bts s) b = 0 by unfold lackV lackE; rw [hk, hn]; exact ⟨if_pos ⟨rfl, by omega⟩, by simp [hq]⟩)
      clear hk hn h1 h5
      rw [hR.out.1, hR.out.2]
      go_enter Tryd.func17, Tryd.ntmps17
      go_wp2_with (first
        | (go_at_call 52; (with_reducible refine (begun_any _ _ _).mono ?_); rintro e wz ⟨rfl, hwz⟩; replace hwz := hwz.symm; subst hwz; rw [hkH.out])
        | (go_at_call 53; (with_reducible refine (hlk.out _).mono ?_); rintro e w2 ⟨rfl, rfl⟩))
      go_ret2
      exact ⟨rfl, rfl⟩
  · have hR := Lib.hid (show lackV (bts s) b = 0 ∧ lackE (bts s) b = k by unfold lackV lackE; rw [hk]; simp [h0])
    have hk0 : (k != 0) = true := by simp [h0]
    have hk1 : (k == 0) = false := by simp [h0]
    clear hk
    rw [hR.out.1, hR.out.2]
    go_enter Tryd.func17, Tryd.ntmps17
    go_wp2_with (first
      | (go_at_call 52; (with_reducible refine (begun_any _ _ _).mono ?_); rintro e wz ⟨rfl, hwz⟩; replace hwz := hwz.symm; subst hwz; rw [hkH.out]))
    go_ret2
    exact ⟨rfl, rfl⟩
set_option maxRecDepth 100000 in
set_option maxHeartbeats 4000000 in
theorem rNeeds_any (s : ByteArray) (w : World) : Calls Tryd.prog 19 #[.string s] w fun e w' => e = .returned (.tuple #[.int .i64 (needV (bts s)), .int .i64 (chkT (bts s))]) ∧ w' = w := by
  obtain ⟨k, hk⟩ : ∃ k, chkT (bts s) = k := ⟨_, rfl⟩
  have hkH := Lib.hid hk
  by_cases h0 : k = 0
  · subst h0
    obtain ⟨h4, h5⟩ := chkT_zero hk
    rw [bts_len] at h4
    obtain ⟨M, hM⟩ : ∃ M : Nat, needN (bts s) = M := ⟨(needN (bts s)).toNat, by have := need_zero (bts s); omega⟩
    have hMl : M ≤ 16 := by have := need_le (bts s); rw [hM, bts_len] at this; omega
    have hR := Lib.hid (show needV (bts s) = M by unfold needV; rw [if_pos hk, ← hM]; rfl)
    have hlk := Lib.hid (fun (n : Nat) (hn : n ≤ 16) w' => rlacks_any s n (by omega) (by omega) w')
    have hiff := Lib.hid (fun n : Nat => show lacksT (bts s) n < 0 ↔ M ≤ n by rw [need_iff _ _ (by omega), hM]; omega)
    rw [hR.out, hk]
    clear hk h5 hM
    go_enter Tryd.func19, Tryd.ntmps19
    go_wp2_with (first
      | (go_at_call 22; (with_reducible refine (rCheck_any _ _).mono ?_); rintro e wz ⟨rfl, hwz⟩; replace hwz := hwz.symm; subst hwz; rw [hkH.out]))
    go_loopw [5] (fun v wr => ∃ n : Nat, n ≤ M ∧ v = .int .i64 n ∧ w = wr) (fun v _ => M - (intOf v).toNat)
    case atStart => exact ⟨0, by omega, rfl, rfl⟩
    case round =>
      obtain ⟨n, hn, rfl, rfl⟩ := hrel
      have hif := hiff.out n
      obtain ⟨q, hq⟩ : ∃ q, lacksT (bts s) n = q := ⟨_, rfl⟩
      have hlq := Lib.hid (hlk.out n (by omega) w)
      rw [hq] at hif hlq
      by_cases hlt : n < M
      · have hqi : (0 : Int) ≤ q := by
          rcases Int.lt_or_le q 0 with h | h
          · have := hif.1 h; omega
          · exact h
        clear hif hq
        go_wp2_with (first
          | (go_at_call 53; (with_reducible refine (hlq.out).mono ?_); rintro e w2 ⟨rfl, rfl⟩))
        go_roundw
        case rel => exact ⟨n + 1, by omega, by go_num, by first | rfl | trivial⟩
        case measure => simp only [intOf]; omega
      · have hqi : ¬ (0 : Int) ≤ q := by have := hif.2 (by omega); omega
        obtain rfl : n = M := by omega
        clear hif hq
        go_wp2_with (first
          | (go_at_call 53; (with_reducible refine (hlq.out).mono ?_); rintro e w2 ⟨rfl, rfl⟩))
        go_ret2
        exact ⟨rfl, rfl⟩
  · have hR := Lib.hid (show needV (bts s) = 0 by unfold needV; rw [hk]; simp [h0])
    have hk0 : (k != 0) = true := by simp [h0]
    rw [hk]
    clear hk
    rw [hR.out]
    go_enter Tryd.func19, Tryd.ntmps19
    go_wp2_with (first
      | (go_at_call 22; (with_reducible refine (rCheck_any _ _).mono ?_); rintro e wz ⟨rfl, hwz⟩; replace hwz := hwz.symm; subst hwz; rw [hkH.out]))
    go_ret2
    exact ⟨rfl, rfl⟩
end Go.Proofs.YtfcfhiekkpflcaaDoor
