/- The reference's Number. -/
import Derived.Test.YtfcfhiekkpflcaaDoorRefD
namespace Go.Proofs.YtfcfhiekkpflcaaDoor
open Go.RowKit
theorem numT_note (l : Word) (c n b : Int) : numT (110 :: l) c n b = balT (c - 1) n (b + 1) + numT l c (n - 1) (b - 1) := by rw [numT, if_neg (by decide)]
theorem numT_coin (l : Word) (c n b : Int) : numT (99 :: l) c n b = numT l (c - 1) n (b + 1) := by rw [numT, if_pos rfl]
theorem balT_neg (n b : Int) : balT (-1) n b = 0 := by unfold balT; rw [if_pos (Or.inl (by omega))]
set_option maxRecDepth 100000 in
set_option maxHeartbeats 4000000 in
theorem rNumber_any (s : ByteArray) (b : Int) (w : World) : Calls Tryd.prog 30 #[.string s, .int .i64 b] w fun e w' => e = .returned (.tuple #[.int .i64 (numV (bts s) b), .int .i64 (coinE (bts s) b)]) ∧ Below w.heap.size w w' := by
  obtain ⟨k, hk⟩ : ∃ k, coinE (bts s) b = k := ⟨_, rfl⟩
  have hkH := Lib.hid hk
  rw [hk]
  by_cases h0 : k = 0
  · subst h0
    obtain ⟨hk0, hk1⟩ := coinE_zero hk
    obtain ⟨h1, h2, h3⟩ := opT_zero hk0
    obtain ⟨h4, h5⟩ := chkT_zero h1
    rw [bts_len] at h4
    have hend := Lib.hid (fun i (hi : i < (bts s).length) => lacks_end hk1 hi)
    have hokH := Lib.hid h5
    have haf := Lib.hid (fun (i : Nat) (hi : i ≤ s.size) w' => after_any s b i (by omega) hi (by omega) w')
    obtain ⟨R, hR⟩ : ∃ R, numT (bts s) ((bts s).count 99 : Nat) ((s.size : Int) - ((bts s).count 99 : Nat)) b = R := ⟨_, rfl⟩
    have hV := Lib.hid (show numV (bts s) b = R by unfold numV; rw [if_pos ⟨hk0, hk1⟩, bts_len, hR])
    have hRH := Lib.hid (show 0 + numT ((bts s).drop 0) (((bts s).drop 0).count 99 : Nat) ((s.size : Int) - (0 : Nat) - (((bts s).drop 0).count 99 : Nat)) b = R by rw [List.drop_zero, Int.zero_add, Int.natCast_zero, Int.sub_zero]; exact hR)
    rw [hV.out]
    clear hk hk0 hk1 h1 h5 hR
    go_enter Tryd.func30, Tryd.ntmps30
    go_wp2_with (first
      | (go_at_call 50; (with_reducible refine (good_any _ _ _).mono ?_); rintro e wz ⟨rfl, hwz⟩; replace hwz := hwz.symm; subst hwz; rw [hkH.out]))
    go_loopw [7, 8, 9, 10, 11] (fun o v _ _ _ wr => ∃ (i : Nat) (out : Int), i ≤ s.size ∧ v = .int .i64 i ∧ o = .int .i64 out ∧ -65536 * (i : Int) ≤ out ∧ out ≤ 65536 * (i : Int) ∧ Hid (out + numT ((bts s).drop i) (((bts s).drop i).count 99 : Nat) ((s.size : Int) - i - (((bts s).drop i).count 99 : Nat)) (endT b ((bts s).take i)) = R) ∧ Below w.heap.size w wr) (fun _ v _ _ _ _ => s.size - (intOf v).toNat)
    case atStart => exact ⟨0, 0, by omega, rfl, rfl, by omega, by omega, hRH, Below.refl _ _⟩
    case round =>
      obtain ⟨i, out, hi, rfl, rfl, ho1, ho2, hL, hbe⟩ := hrel
      obtain ⟨wa, rfl⟩ : ∃ x, x = wr := ⟨wr, rfl⟩
      by_cases hlt : i < s.size
      · have hlti : (i : Int) < s.size := by omega
        have hyy := okT_at hokH.out (List.mem_of_getElem? (bts_at s i hlt))
        have hd : (bts s).drop i = s[i] :: (bts s).drop (i + 1) := by
          have hl : i < (bts s).length := by rw [bts_len]; exact hlt
          rw [List.drop_eq_getElem_cons hl]
          rfl
        have het : endT b ((bts s).take (i + 1)) = stp (endT b ((bts s).take i)) s[i] := by rw [List.take_add_one, bts_at s i hlt, Option.toList_some, end_snoc]
        have hLo := hL.out
        obtain ⟨x, hx⟩ : ∃ x, endT b ((bts s).take i) = x := ⟨_, rfl⟩
        have hxb := end_bound ((bts s).take i) b
        rw [List.length_take, bts_len] at hxb
        have hx0 : 0 ≤ x := by
          rw [← hx]
          cases i with
          | zero => simpa [endT] using h2
          | succ j => exact hend.out j (by rw [bts_len]; omega)
        rw [hx] at hLo het hxb
        rw [hd] at hLo
        have hxH := Lib.hid hx
        rcases hyy with hy | hy
        · rw [hy] at hLo het
          rw [numT_coin, List.count_cons_self] at hLo
          have hN := Lib.hid (show out + numT ((bts s).drop (i + 1)) (((bts s).drop (i + 1)).count 99 : Nat) ((s.size : Int) - (i + 1 : Nat) - (((bts s).drop (i + 1)).count 99 : Nat)) (endT b ((bts s).take (i + 1))) = R by
            rw [het, show stp x 99 = x + 1 from rfl, ← hLo]
            congr 2 <;> omega)
          have hg : ((s[i].toNat : Int) == 110) = false := by rw [hy]; rfl
          clear hLo hd het hx hy
          go_wp2_with (fail)
          go_roundw
          case rel => exact ⟨i + 1, out, by omega, by go_num, rfl, by omega, by omega, hN, hbe⟩
          case measure => simp only [intOf]; omega
        · rw [hy] at hLo het
          obtain ⟨C, hC⟩ : ∃ C : Nat, ((bts s).drop (i + 1)).count 99 = C := ⟨_, rfl⟩
          have hCl : C + (i + 1) ≤ s.size := by
            have := List.count_le_length (a := (99 : UInt8)) (l := (bts s).drop (i + 1))
            rw [List.length_drop, bts_len] at this
            omega
          have hCd : ((bts s).drop i).count 99 = C := by rw [hd, hy, List.count_cons_of_ne (by decide), hC]
          have hCdH := Lib.hid hCd
          rw [numT_note, List.count_cons_of_ne (by decide), hC] at hLo
          obtain ⟨N, hNn⟩ : ∃ N : Nat, (s.size : Int) - i - C = N := ⟨s.size - i - C, by omega⟩
          rw [hNn] at hLo
          obtain ⟨X, hX⟩ : ∃ X, balT ((C : Int) - 1) N (x + 1) = X := ⟨_, rfl⟩
          have hXb := balT_bound (c := (C : Int) - 1) (n := (N : Int)) (by omega) (x + 1)
          rw [hX] at hXb hLo
          obtain ⟨hXa, hXb⟩ := hXb
          obtain ⟨o1, hoe⟩ : ∃ o1, out + X = o1 := ⟨_, rfl⟩
          have hN := Lib.hid (show o1 + numT ((bts s).drop (i + 1)) (((bts s).drop (i + 1)).count 99 : Nat) ((s.size : Int) - (i + 1 : Nat) - (((bts s).drop (i + 1)).count 99 : Nat)) (endT b ((bts s).take (i + 1))) = R by
            rw [het, show stp x 110 = x - 1 from rfl, ← hLo, hC, ← hoe, Int.add_assoc]
            congr 3 <;> omega)
          have hg : ((s[i].toNat : Int) == 110) = true := by rw [hy]; rfl
          have hXH := Lib.hid hX
          have hoa := Lib.hid (show -65536 * ((i + 1 : Nat) : Int) ≤ o1 ∧ o1 ≤ 65536 * ((i + 1 : Nat) : Int) by omega)
          have hob : -2000000 ≤ o1 ∧ o1 ≤ 2000000 := by omega
          obtain ⟨hob1, hob2⟩ := hob
          clear hLo hd het hx hy hCd hC hX
          go_wp2_with (fail)
          go_loopw [9, 10, 11] (fun u t v wr2 => ∃ (k c n : Nat), i ≤ k ∧ k ≤ s.size ∧ v = .int .i64 k ∧ u = .int .i64 c ∧ t = .int .i64 n ∧ c + n + i = k ∧ Hid (c + ((bts s).drop k).count 99 = C) ∧ wa = wr2) (fun _ _ v _ => s.size - (intOf v).toNat)
          case atStart => exact ⟨i, 0, 0, by omega, by omega, rfl, rfl, rfl, by omega, Lib.hid (by rw [hCdH.out]; omega), rfl⟩
          case round =>
            obtain ⟨k, c, n, hik, hk, rfl, rfl, rfl, hcn, hct, hw2⟩ := hrel
            subst hw2
            by_cases hlt2 : k < s.size
            · have hlti2 : (k : Int) < s.size := by omega
              have hyy2 := okT_at hokH.out (List.mem_of_getElem? (bts_at s k hlt2))
              have hd2 : (bts s).drop k = s[k] :: (bts s).drop (k + 1) := by
                have hl : k < (bts s).length := by rw [bts_len]; exact hlt2
                rw [List.drop_eq_getElem_cons hl]
                rfl
              have hco := hct.out
              rw [hd2] at hco
              rcases hyy2 with hy2 | hy2
              · rw [hy2, List.count_cons_self] at hco
                have hN2 := Lib.hid (show (c + 1) + ((bts s).drop (k + 1)).count 99 = C by omega)
                have hg2 : ((s[k].toNat : Int) == 99) = true := by rw [hy2]; rfl
                clear hco hd2 hy2
                go_wp2_with (fail)
                go_roundw
                case rel => exact ⟨k + 1, c + 1, n, by omega, by omega, by go_num, by go_num, rfl, by omega, hN2, by first | rfl | trivial⟩
                case measure => simp only [intOf]; omega
              · rw [hy2, List.count_cons_of_ne (by decide)] at hco
                have hN2 := Lib.hid (show c + ((bts s).drop (k + 1)).count 99 = C by omega)
                have hg2 : ((s[k].toNat : Int) == 99) = false := by rw [hy2]; rfl
                clear hco hd2 hy2
                go_wp2_with (fail)
                go_roundw
                case rel => exact ⟨k + 1, c, n + 1, by omega, by omega, by go_num, rfl, by go_num, by omega, hN2, by first | rfl | trivial⟩
                case measure => simp only [intOf]; omega
            · have hlti2 : ¬ (k : Int) < s.size := by omega
              have hco := hct.out
              rw [List.drop_of_length_le (by rw [bts_len]; omega), List.count_nil, Nat.add_zero] at hco
              subst hco
              obtain rfl : n = N := by omega
              by_cases hc0 : 0 < c
              · have hc0i : (0 : Int) < c := by omega
                obtain ⟨c1, hc1⟩ : ∃ c1 : Nat, (c : Int) - 1 = c1 := ⟨c - 1, by omega⟩
                obtain ⟨x1, hx1⟩ : ∃ x1, x + 1 = x1 := ⟨_, rfl⟩
                have hXe := hXH.out
                rw [hc1, hx1] at hXe
                have hbl := Lib.hid (show ∀ w', Calls Tryd.prog 57 #[.int .i64 c1, .int .i64 n, .int .i64 x1] w' fun e w2 => e = .returned (.int .i64 X) ∧ Below w'.heap.size w' w2 from fun w' => (rcount_int c1 n x1 (by omega) (by omega) (by omega) w').mono (by
                  rintro e w2 ⟨rfl, h⟩
                  exact ⟨by rw [hXe], h⟩))
                have haf2 := Lib.hid (show ∀ w', Calls Tryd.prog 51 #[.string s, .int .i64 b, .int .i64 i] w' fun e w'' => e = .returned (.int .i64 x) ∧ w'' = w' from fun w' => (haf.out i (by omega) w').mono (by
                  rintro e w'' ⟨rfl, h⟩
                  exact ⟨by rw [hxH.out], h⟩))
                clear hXe
                go_wp2_with (first
                  | (go_at_call 51; (with_reducible refine (haf2.out _).mono ?_); rintro e wz ⟨rfl, hwz⟩; replace hwz := hwz.symm; subst hwz)
                  | (go_at_call 57; (with_reducible refine (hbl.out _).mono ?_); rintro e w3 ⟨rfl, hb3⟩; replace hb3 := hbe.trans (hb3.mono hbe.size)))
                go_roundw
                case rel => exact ⟨i + 1, o1, by omega, by go_num, rfl, hoa.out.1, hoa.out.2, hN, hb3⟩
                case measure => simp only [intOf]; omega
              · have hc0i : ¬ (0 : Int) < c := by omega
                have hX0 : X = 0 := by rw [← hXH.out, show (c : Int) - 1 = -1 by omega, balT_neg]
                have ho0 : o1 = out := by omega
                subst ho0
                go_wp2_with (fail)
                go_roundw
                case rel => exact ⟨i + 1, _, by omega, by go_num, rfl, hoa.out.1, hoa.out.2, hN, hbe⟩
                case measure => simp only [intOf]; omega
      · have hlti : ¬ (i : Int) < s.size := by omega
        have hoR := Lib.hid (show out = R by
          have := hL.out
          rw [List.drop_of_length_le (by rw [bts_len]; omega), numT, Int.add_zero] at this
          exact this)
        go_wp2_with (fail)
        go_ret2
        exact ⟨by rw [← hoR.out]; rfl, hbe⟩
  · have hV := Lib.hid (show numV (bts s) b = 0 by
      unfold numV
      rw [if_neg]
      rintro ⟨h1, h2⟩
      unfold coinE at hk
      rw [if_neg (by simp [h1]), if_pos h2] at hk
      exact h0 hk.symm)
    have hk0 : (k != 0) = true := by simp [h0]
    rw [hV.out]
    clear hk
    go_enter Tryd.func30, Tryd.ntmps30
    go_wp2_with (first
      | (go_at_call 50; (with_reducible refine (good_any _ _ _).mono ?_); rintro e wz ⟨rfl, hwz⟩; replace hwz := hwz.symm; subst hwz; rw [hkH.out]))
    go_ret2
    exact ⟨rfl, Below.refl _ _⟩
end Go.Proofs.YtfcfhiekkpflcaaDoor
