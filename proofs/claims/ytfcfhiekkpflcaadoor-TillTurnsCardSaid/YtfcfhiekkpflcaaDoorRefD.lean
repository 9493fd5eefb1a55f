/- The reference's asked, Count, First, At, Number. -/
import Derived.Test.YtfcfhiekkpflcaaDoorRefC
namespace Go.Proofs.YtfcfhiekkpflcaaDoor
open Go.RowKit
set_option maxRecDepth 100000 in
set_option maxHeartbeats 4000000 in
theorem asked_any (c n b : Int) (w : World) : Calls Tryd.prog 56 #[.int .i64 c, .int .i64 n, .int .i64 b] w fun e w' => e = .returned (.int .i64 (cntE c n b)) ∧ w' = w := by
  obtain ⟨d1, h1⟩ : ∃ d, decide ((0 : Int) ≤ c ∧ c ≤ 16) = d := ⟨_, rfl⟩
  obtain ⟨d2, h2⟩ : ∃ d, decide ((0 : Int) ≤ n ∧ n ≤ 16) = d := ⟨_, rfl⟩
  obtain ⟨d3, h3⟩ : ∃ d, decide ((0 : Int) ≤ b ∧ b ≤ 20) = d := ⟨_, rfl⟩
  have hE : cntE c n b = if (d1 && d2 && decide (c + n ≤ 16) && d3) = true then 0 else 1 := by
    rw [← h1, ← h2, ← h3]
    unfold cntE
    simp only [Bool.and_eq_true, decide_eq_true_eq]
    split
    · rw [if_neg (by omega)]
    · split
      · rw [if_pos (by omega)]
      · rw [if_neg (by omega)]
  have h1H := Lib.hid h1
  have h2H := Lib.hid h2
  have h3H := Lib.hid h3
  cases d1 with
  | false =>
    have hR := Lib.hid (show cntE c n b = 1 by rw [hE]; rfl)
    clear hE h1 h2 h3
    go_enter Tryd.func56, Tryd.ntmps56
    go_wp2_with (first
      | (go_at_call 63; (with_reducible refine (rin_any _ _ _ _).mono ?_); rintro e w2 ⟨rfl, rfl⟩; (first | rw [h1H.out] | rw [h2H.out] | rw [h3H.out])))
    go_ret
    exact ⟨by rw [hR.out]; rfl, rfl⟩
  | true =>
    have hc : 0 ≤ c ∧ c ≤ 16 := by simpa using h1
    obtain ⟨hca, hcb⟩ := hc
    cases d2 with
    | false =>
      have hR := Lib.hid (show cntE c n b = 1 by rw [hE]; rfl)
      clear hE h1 h2 h3
      go_enter Tryd.func56, Tryd.ntmps56
      go_wp2_with (first
        | (go_at_call 63; (with_reducible refine (rin_any _ _ _ _).mono ?_); rintro e w2 ⟨rfl, rfl⟩; (first | rw [h1H.out] | rw [h2H.out] | rw [h3H.out])))
      go_ret
      exact ⟨by rw [hR.out]; rfl, rfl⟩
    | true =>
      have hn : 0 ≤ n ∧ n ≤ 16 := by simpa using h2
      obtain ⟨hna, hnb⟩ := hn
      obtain ⟨t, ht⟩ : ∃ t, c + n = t := ⟨_, rfl⟩
      rw [ht] at hE
      by_cases h16 : t ≤ 16
      · have hg : ¬ (16 : Int) < t := by omega
        have hgd : decide ((16 : Int) < t) = false := decide_eq_false hg
        rw [decide_eq_true h16] at hE
        cases d3 with
        | false =>
          have hR := Lib.hid (show cntE c n b = 1 by rw [hE]; rfl)
          clear hE h1 h2 h3
          go_enter Tryd.func56, Tryd.ntmps56
          go_wp2_with (first
            | (go_at_call 63; (with_reducible refine (rin_any _ _ _ _).mono ?_); rintro e w2 ⟨rfl, rfl⟩; (first | rw [h1H.out] | rw [h2H.out] | rw [h3H.out])))
          go_ret
          exact ⟨by rw [hR.out]; rfl, rfl⟩
        | true =>
          have hR := Lib.hid (show cntE c n b = 0 by rw [hE]; rfl)
          clear hE h1 h2 h3
          go_enter Tryd.func56, Tryd.ntmps56
          go_wp2_with (first
            | (go_at_call 63; (with_reducible refine (rin_any _ _ _ _).mono ?_); rintro e w2 ⟨rfl, rfl⟩; (first | rw [h1H.out] | rw [h2H.out] | rw [h3H.out])))
          go_ret
          exact ⟨by rw [hR.out]; rfl, rfl⟩
      · have hg : (16 : Int) < t := by omega
        have hR := Lib.hid (show cntE c n b = 1 by rw [hE, decide_eq_false h16]; simp)
        clear hE h1 h2 h3
        go_enter Tryd.func56, Tryd.ntmps56
        go_wp2_with (first
          | (go_at_call 63; (with_reducible refine (rin_any _ _ _ _).mono ?_); rintro e w2 ⟨rfl, rfl⟩; (first | rw [h1H.out] | rw [h2H.out] | rw [h3H.out])))
        go_ret
        exact ⟨by rw [hR.out]; rfl, rfl⟩
theorem rcount_int (c n b : Int) (hc : 0 ≤ c ∧ c ≤ 16) (hn : 0 ≤ n ∧ n ≤ 16) (hb : 0 ≤ b ∧ b ≤ 1000) (w : World) : Calls Tryd.prog 57 #[.int .i64 c, .int .i64 n, .int .i64 b] w fun e w' => e = .returned (.int .i64 (balT c n b)) ∧ Below w.heap.size w w' := by
  obtain ⟨C, rfl⟩ : ∃ C : Nat, c = C := ⟨c.toNat, by omega⟩
  obtain ⟨N, rfl⟩ : ∃ N : Nat, n = N := ⟨n.toNat, by omega⟩
  obtain ⟨B, rfl⟩ : ∃ B : Nat, b = B := ⟨b.toNat, by omega⟩
  rw [bal_gd]
  exact rcount_any C N B (by omega) (by omega) (by omega) w
set_option maxRecDepth 100000 in
set_option maxHeartbeats 4000000 in
theorem rCount_any (c n b : Int) (w : World) : Calls Tryd.prog 24 #[.int .i64 c, .int .i64 n, .int .i64 b] w fun e w' => e = .returned (.tuple #[.int .i64 (cntV c n b), .int .i64 (cntE c n b)]) ∧ Below w.heap.size w w' := by
  obtain ⟨E, hE⟩ : ∃ E, cntE c n b = E := ⟨_, rfl⟩
  have hEH := Lib.hid hE
  by_cases h0 : E = 0
  · subst h0
    obtain ⟨q1, q2, q3, q4, q5⟩ := cntE_zero hE
    have hV := Lib.hid (show cntV c n b = balT c n b by unfold cntV; rw [if_pos hE])
    have hct := Lib.hid (fun w' => rcount_int c n b (by omega) (by omega) (by omega) w')
    rw [hV.out, hE]
    clear hE
    go_enter Tryd.func24, Tryd.ntmps24
    go_wp2_with (first
      | (go_at_call 56; (with_reducible refine (asked_any _ _ _ _).mono ?_); rintro e wz ⟨rfl, hwz⟩; replace hwz := hwz.symm; subst hwz; rw [hEH.out])
      | (go_at_call 57; (with_reducible refine (hct.out _).mono ?_); rintro e w2 ⟨rfl, hb2⟩))
    go_ret2
    exact ⟨rfl, hb2⟩
  · have hV := Lib.hid (show cntV c n b = 0 by unfold cntV; rw [if_neg (by rw [hE]; exact h0)])
    have hk0 : (E != 0) = true := by simp [h0]
    rw [hV.out, hE]
    clear hE
    go_enter Tryd.func24, Tryd.ntmps24
    go_wp2_with (first
      | (go_at_call 56; (with_reducible refine (asked_any _ _ _ _).mono ?_); rintro e wz ⟨rfl, hwz⟩; replace hwz := hwz.symm; subst hwz; rw [hEH.out]))
    go_ret2
    exact ⟨rfl, Below.refl _ _⟩
set_option maxRecDepth 100000 in
set_option maxHeartbeats 4000000 in
theorem rFirst_any (c n b : Int) (w : World) : Calls Tryd.prog 26 #[.int .i64 c, .int .i64 n, .int .i64 b] w fun e w' => e = .returned (.tuple #[.string ⟨(firV c n b).toArray⟩, .int .i64 (firE c n b)]) ∧ Below w.heap.size w w' := by
  obtain ⟨E, hE⟩ : ∃ E, cntE c n b = E := ⟨_, rfl⟩
  have hEH := Lib.hid hE
  by_cases h0 : E = 0
  · subst h0
    obtain ⟨q1, q2, q3, q4, q5⟩ := cntE_zero hE
    have hct := Lib.hid (fun w' => rcount_int c n b (by omega) (by omega) (by omega) w')
    obtain ⟨G, hG⟩ : ∃ G, balT c n b = G := ⟨_, rfl⟩
    rw [hG] at hct
    by_cases hg : G = 0
    · subst hg
      have hR := Lib.hid (show firV c n b = [] ∧ firE c n b = 12 by
        have e : firE c n b = 12 := by unfold firE; rw [if_neg (by simp [hE]), if_pos hG]
        exact ⟨by unfold firV; rw [e]; rfl, e⟩)
      rw [hR.out.1, hR.out.2]
      clear hE hG
      go_enter Tryd.func26, Tryd.ntmps26
      go_wp2_with (first
        | (go_at_call 56; (with_reducible refine (asked_any _ _ _ _).mono ?_); rintro e wz ⟨rfl, hwz⟩; replace hwz := hwz.symm; subst hwz; rw [hEH.out])
        | (go_at_call 57; (with_reducible refine (hct.out _).mono ?_); rintro e w2 ⟨rfl, hb2⟩))
      go_ret2
      exact ⟨rfl, hb2⟩
    · obtain ⟨X, hX⟩ : ∃ X : Word, List.replicate c.toNat 99 ++ List.replicate n.toNat 110 = X := ⟨_, rfl⟩
      have hR := Lib.hid (show firV c n b = X ∧ firE c n b = 0 by
        have e : firE c n b = 0 := by unfold firE; rw [if_neg (by simp [hE]), if_neg (by rw [hG]; exact hg)]
        exact ⟨by unfold firV; rw [e, if_pos rfl, hX], e⟩)
      have hg0 : (G == 0) = false := by simp [hg]
      obtain ⟨m, hm⟩ : ∃ m : Nat, c + n = m := ⟨(c + n).toNat, by omega⟩
      have hXl : X.length = m := by rw [← hX, List.length_append, List.length_replicate, List.length_replicate]; omega
      have hget := Lib.hid (show ∀ i : Nat, i < m → X[i]? = some (if (i : Int) < c then 99 else 110) by
        intro i hi
        rw [← hX]
        by_cases hic : (i : Int) < c
        · rw [if_pos hic, List.getElem?_append_left (by rw [List.length_replicate]; omega), List.getElem?_replicate, if_pos (by omega)]
        · rw [if_neg hic, List.getElem?_append_right (by rw [List.length_replicate]; omega), List.length_replicate, List.getElem?_replicate, if_pos (by omega)])
      rw [hR.out.1, hR.out.2]
      clear hE hG hg hX
      go_enter Tryd.func26, Tryd.ntmps26
      go_wp2_with (first
        | (go_at_call 56; (with_reducible refine (asked_any _ _ _ _).mono ?_); rintro e wz ⟨rfl, hwz⟩; replace hwz := hwz.symm; subst hwz; rw [hEH.out])
        | (go_at_call 57; (with_reducible refine (hct.out _).mono ?_); rintro e w2 ⟨rfl, hb2⟩))
      go_loopw [9, 10] (fun o v wr => ∃ (i : Nat) (t : ByteArray), i ≤ m ∧ v = .int .i64 i ∧ o = .string t ∧ t.size = i ∧ Hid (bts t = X.take i) ∧ w2 = wr) (fun _ v _ => m - (intOf v).toNat)
      case atStart => exact ⟨0, ⟨#[]⟩, by omega, rfl, rfl, rfl, Lib.hid (by simp [bts]), rfl⟩
      case round =>
        obtain ⟨i, t, hi, rfl, rfl, hts, ht, hwr⟩ := hrel
        subst hwr
        by_cases hlt : i < m
        · have hlti : (i : Int) < m := by omega
          have hX1 : X.take (i + 1) = X.take i ++ [if (i : Int) < c then 99 else 110] := by rw [List.take_add_one, hget.out i hlt]; rfl
          have ha1 : ∀ w', (Op.stringOp .add t ⟨#[110]⟩).run Tryd.prog w' = .ok (.string (t ++ ⟨#[110]⟩)) w' := fun w' => run_string_add w' _ _ (by omega) (by decide)
          have ha2 : ∀ w', (Op.stringOp .add t ⟨#[99]⟩).run Tryd.prog w' = .ok (.string (t ++ ⟨#[99]⟩)) w' := fun w' => run_string_add w' _ _ (by omega) (by decide)
          have hs1 : (t ++ ⟨#[110]⟩ : ByteArray).size = i + 1 := by rw [← bts_len, bts_append, List.length_append, bts_len, hts]; rfl
          have hs2 : (t ++ ⟨#[99]⟩ : ByteArray).size = i + 1 := by rw [← bts_len, bts_append, List.length_append, bts_len, hts]; rfl
          by_cases hic : (i : Int) < c
          · have hN := Lib.hid (show bts (t ++ ⟨#[99]⟩) = X.take (i + 1) by rw [hX1, if_pos hic, bts_append, ht.out]; rfl)
            clear hX1
            go_wp2_with (fail)
            go_roundw
            case rel => exact ⟨i + 1, _, by omega, by go_num, rfl, hs2, hN, by first | rfl | trivial⟩
            case measure => simp only [intOf]; omega
          · have hN := Lib.hid (show bts (t ++ ⟨#[110]⟩) = X.take (i + 1) by rw [hX1, if_neg hic, bts_append, ht.out]; rfl)
            clear hX1
            go_wp2_with (fail)
            go_roundw
            case rel => exact ⟨i + 1, _, by omega, by go_num, rfl, hs1, hN, by first | rfl | trivial⟩
            case measure => simp only [intOf]; omega
        · have hlti : ¬ (i : Int) < m := by omega
          have hte := Lib.hid (show t = ⟨X.toArray⟩ by
            have := ht.out
            rw [List.take_of_length_le (by omega)] at this
            rw [← this, mk_bts])
          go_wp2_with (fail)
          go_ret2
          exact ⟨by rw [← hte.out]; rfl, hb2⟩
  · have hR := Lib.hid (show firV c n b = [] ∧ firE c n b = E by
      have e : firE c n b = E := by unfold firE; rw [hE, if_pos h0]
      exact ⟨by unfold firV; rw [e, if_neg h0], e⟩)
    have hk0 : (E != 0) = true := by simp [h0]
    have hk1 : (E == 0) = false := by simp [h0]
    rw [hR.out.1, hR.out.2]
    clear hE
    go_enter Tryd.func26, Tryd.ntmps26
    go_wp2_with (first
      | (go_at_call 56; (with_reducible refine (asked_any _ _ _ _).mono ?_); rintro e wz ⟨rfl, hwz⟩; replace hwz := hwz.symm; subst hwz; rw [hEH.out]))
    go_ret2
    exact ⟨rfl, Below.refl _ _⟩
set_option maxRecDepth 100000 in
set_option maxHeartbeats 4000000 in
theorem rAt_any (c n b k : Int) (w : World) : Calls Tryd.prog 28 #[.int .i64 c, .int .i64 n, .int .i64 b, .int .i64 k] w fun e w' => e = .returned (.tuple #[.string ⟨(atV c n b k).toArray⟩, .int .i64 (atE c n b k)]) ∧ Below w.heap.size w w' := by
  obtain ⟨E, hE⟩ : ∃ E, cntE c n b = E := ⟨_, rfl⟩
  have hEH := Lib.hid hE
  by_cases h0 : E = 0
  · subst h0
    obtain ⟨q1, q2, q3, q4, q5⟩ := cntE_zero hE
    obtain ⟨C, rfl⟩ : ∃ C : Nat, c = C := ⟨c.toNat, by omega⟩
    obtain ⟨N, rfl⟩ : ∃ N : Nat, n = N := ⟨n.toNat, by omega⟩
    obtain ⟨b0, rfl⟩ : ∃ b0 : Nat, b = b0 := ⟨b.toNat, by omega⟩
    obtain ⟨G, hG⟩ : ∃ G : Nat, gdN (C + N) C N b0 = G := ⟨_, rfl⟩
    have hGH := Lib.hid (show balT (C : Int) (N : Int) (b0 : Int) = (G : Nat) by rw [bal_gd, hG])
    have hct := Lib.hid (fun w' => rcount_int C N b0 (by omega) (by omega) (by omega) w')
    rw [hGH.out] at hct
    have hG6 := bal_le (c := C) (n := N) (by omega) b0
    rw [hG] at hG6
    obtain ⟨G1, hG1⟩ : ∃ G1 : Int, (G : Int) - 1 = G1 := ⟨_, rfl⟩
    obtain ⟨q, hq⟩ : ∃ q, decide ((0 : Int) ≤ k ∧ k ≤ G1) = q := ⟨_, rfl⟩
    have hqH := Lib.hid hq
    cases q with
    | false =>
      have hb : ¬ (0 ≤ k ∧ k ≤ G1) := by simpa using hq
      have hA := Lib.hid (show atE (C : Int) (N : Int) (b0 : Int) k = 1 by unfold atE; rw [if_neg (by simp [hE]), if_neg (by rw [hGH.out]; omega)])
      have hB := Lib.hid (show atV (C : Int) (N : Int) (b0 : Int) k = [] by unfold atV; rw [hA.out]; rfl)
      rw [hA.out, hB.out]
      clear hE hG hq
      go_enter Tryd.func28, Tryd.ntmps28
      go_wp2_with (first
        | (go_at_call 56; (with_reducible refine (asked_any _ _ _ _).mono ?_); rintro e wz ⟨rfl, hwz⟩; replace hwz := hwz.symm; subst hwz; rw [hEH.out])
        | (go_at_call 57; (with_reducible refine (hct.out _).mono ?_); rintro e w2 ⟨rfl, hb2⟩)
        | (go_at_call 63; (with_reducible refine (rin_any _ _ _ _).mono ?_); rintro e wz ⟨rfl, hwz⟩; replace hwz := hwz.symm; subst hwz; rw [hqH.out]))
      go_ret2
      exact ⟨rfl, hb2⟩
    | true =>
      have hb : 0 ≤ k ∧ k ≤ G1 := by simpa using hq
      obtain ⟨K, rfl⟩ : ∃ K : Nat, k = K := ⟨k.toNat, by omega⟩
      have hA := Lib.hid (show atE (C : Int) (N : Int) (b0 : Int) (K : Int) = 0 by unfold atE; rw [if_neg (by simp [hE]), if_pos (by rw [hGH.out]; omega)])
      obtain ⟨R, hR⟩ : ∃ R, atN (C + N) C N b0 K = R := ⟨_, rfl⟩
      have hB := Lib.hid (show atV (C : Int) (N : Int) (b0 : Int) (K : Int) = R by unfold atV; rw [hA.out, if_pos rfl, ← hR]; rfl)
      rw [hA.out, hB.out]
      have hKG : K < gdN (C + N) C N b0 := by omega
      have hKGH := Lib.hid hKG
      have hRH := Lib.hid (show [] ++ atN (C + N) C N b0 K = R from hR)
      clear hE hG hq hR hKG
      go_enter Tryd.func28, Tryd.ntmps28
      go_wp2_with (first
        | (go_at_call 56; (with_reducible refine (asked_any _ _ _ _).mono ?_); rintro e wz ⟨rfl, hwz⟩; replace hwz := hwz.symm; subst hwz; rw [hEH.out])
        | (go_at_call 57; (with_reducible refine (hct.out _).mono ?_); rintro e w2 ⟨rfl, hb2⟩)
        | (go_at_call 63; (with_reducible refine (rin_any _ _ _ _).mono ?_); rintro e wz ⟨rfl, hwz⟩; replace hwz := hwz.symm; subst hwz; rw [hqH.out]))
      go_loopw [0, 1, 2, 3, 11, 12] (fun v0 v1 v2 v3 v11 _ wr => ∃ (c n b k s : Nat) (t : ByteArray), c + n = s ∧ s ≤ 16 ∧ c + b ≤ 36 ∧ k ≤ 65536 ∧ t.size + s ≤ 16 ∧ v0 = .int .i64 c ∧ v1 = .int .i64 n ∧ v2 = .int .i64 b ∧ v3 = .int .i64 k ∧ v11 = .string t ∧ Hid (bts t ++ atN s c n b k = R) ∧ Hid (k < gdN s c n b) ∧ Below w.heap.size w wr) (fun v0 v1 _ _ _ _ _ => (intOf v0).toNat + (intOf v1).toNat)
      case atStart => exact ⟨C, N, b0, K, C + N, ⟨#[]⟩, rfl, by omega, by omega, by omega, by show 0 + (C + N) ≤ 16; omega, rfl, rfl, rfl, rfl, rfl, hRH, hKGH, hb2⟩
      case round =>
        clear hb2
        obtain ⟨c, n, b, k, s, t, hcs, hs16, hcb, hk6, hts, rfl, rfl, rfl, rfl, rfl, hL, hlt, hbe⟩ := hrel
        have hcsi : (c : Int) + n = s := by omega
        have ha1 : ∀ w', (Op.stringOp .add t ⟨#[110]⟩).run Tryd.prog w' = .ok (.string (t ++ ⟨#[110]⟩)) w' := fun w' => run_string_add w' _ _ (by omega) (by decide)
        have ha2 : ∀ w', (Op.stringOp .add t ⟨#[99]⟩).run Tryd.prog w' = .ok (.string (t ++ ⟨#[99]⟩)) w' := fun w' => run_string_add w' _ _ (by omega) (by decide)
        have hs1 : (t ++ ⟨#[110]⟩ : ByteArray).size = t.size + 1 := by rw [← bts_len, bts_append, List.length_append, bts_len]; rfl
        have hs2 : (t ++ ⟨#[99]⟩ : ByteArray).size = t.size + 1 := by rw [← bts_len, bts_append, List.length_append, bts_len]; rfl
        have hb1 := Lib.hid (show bts (t ++ ⟨#[110]⟩) = bts t ++ [110] by rw [bts_append]; rfl)
        have hb2 := Lib.hid (show bts (t ++ ⟨#[99]⟩) = bts t ++ [99] by rw [bts_append]; rfl)
        cases s with
        | succ s =>
          have hsi : (0 : Int) < ((s + 1 : Nat) : Int) := by omega
          obtain ⟨X, hX⟩ : ∃ X, gcN c n b = X := ⟨_, rfl⟩
          by_cases hc0 : 0 < c
          · have hc0i : (0 : Int) < c := by omega
            obtain ⟨c1, hc1⟩ : ∃ c1 : Nat, (c : Int) - 1 = c1 := ⟨c - 1, by omega⟩
            obtain ⟨b1, hb1e⟩ : ∃ b1 : Nat, (b : Int) + 1 = b1 := ⟨b + 1, by omega⟩
            have hb1n : b + 1 = b1 := by omega
            have hbl := Lib.hid (show ∀ w', Calls Tryd.prog 57 #[.int .i64 c1, .int .i64 n, .int .i64 b1] w' fun e w2 => e = .returned (.int .i64 (X : Nat)) ∧ Below w'.heap.size w' w2 from fun w' => (rcount_any c1 n b1 (by omega) (by omega) (by omega) w').mono (by
              rintro e w2 ⟨rfl, h⟩
              refine ⟨?_, h⟩
              rw [← hX]
              unfold gcN
              rw [if_pos hc0, show c - 1 = c1 by omega, hb1n]))
            have hXb : (X : Int) ≤ 65536 := by
              rw [← hX]
              unfold gcN
              rw [if_pos hc0]
              have := bal_le (c := c - 1) (n := n) (by omega) (b + 1)
              omega
            by_cases hkX : k < X
            · have hki : (k : Int) < X := by omega
              obtain ⟨g1, g2⟩ := gc_pos (c := c) (n := n) (b := b) (k := k) (by rw [hX]; exact hkX)
              have hN := Lib.hid (show bts (t ++ ⟨#[99]⟩) ++ atN s c1 n b1 k = R by rw [hb2.out, ← hL.out, atN, if_pos (by rw [hX]; exact hkX), hb1n, show c - 1 = c1 by omega]; simp)
              have hG := Lib.hid (show k < gdN s c1 n b1 by rw [← hb1n, show s = c - 1 + n by omega, show c1 = c - 1 by omega]; exact g2)
              clear hX hb1n hkX
              go_wp2_with (first
                | (go_at_call 57; (with_reducible refine (hbl.out _).mono ?_); rintro e w3 ⟨rfl, hb3⟩; replace hb3 := hbe.trans (hb3.mono hbe.size)))
              go_roundw
              case rel => exact ⟨c1, n, b1, k, s, _, by omega, by omega, by omega, hk6, by omega, rfl, rfl, rfl, rfl, rfl, hN, hG, hb3⟩
              case measure => simp only [intOf]; omega
            · have hki : ¬ (k : Int) < X := by omega
              obtain ⟨g1, g2, g3⟩ := gc_neg (c := c) (n := n) (b := b) (k := k) (by omega) (by rw [hcs]; exact hlt.out) (by rw [hX]; exact hkX)
              rw [hX] at g3
              obtain ⟨k1, hk1⟩ : ∃ k1 : Nat, k - X = k1 := ⟨_, rfl⟩
              rw [hk1] at g3
              have hk1i : (k : Int) - X = k1 := by omega
              obtain ⟨n1, hn1⟩ : ∃ n1 : Nat, (n : Int) - 1 = n1 := ⟨n - 1, by omega⟩
              obtain ⟨b2, hb2'⟩ : ∃ b2 : Nat, (b : Int) - 1 = b2 := ⟨b - 1, by omega⟩
              have hN := Lib.hid (show bts (t ++ ⟨#[110]⟩) ++ atN s c n1 b2 k1 = R by rw [hb1.out, ← hL.out, atN, if_neg (by rw [hX]; exact hkX), hX, hk1, show n - 1 = n1 by omega, show b - 1 = b2 by omega]; simp)
              have hG := Lib.hid (show k1 < gdN s c n1 b2 by rw [show n - 1 = n1 by omega, show b - 1 = b2 by omega] at g3; rw [show s = c + n1 by omega]; exact g3)
              clear hX hb1n hkX
              go_wp2_with (first
                | (go_at_call 57; (with_reducible refine (hbl.out _).mono ?_); rintro e w3 ⟨rfl, hb3⟩; replace hb3 := hbe.trans (hb3.mono hbe.size)))
              go_roundw
              case rel => exact ⟨c, n1, b2, k1, s, _, by omega, by omega, by omega, by omega, by omega, rfl, rfl, rfl, rfl, rfl, hN, hG, hb3⟩
              case measure => simp only [intOf]; omega
          · have hc0i : ¬ (0 : Int) < c := by omega
            have hX0 : X = 0 := by rw [← hX]; unfold gcN; rw [if_neg hc0]
            subst hX0
            obtain ⟨g1, g2, g3⟩ := gc_neg (c := c) (n := n) (b := b) (k := k) (by omega) (by rw [hcs]; exact hlt.out) (by rw [hX]; omega)
            rw [hX] at g3
            obtain ⟨n1, hn1⟩ : ∃ n1 : Nat, (n : Int) - 1 = n1 := ⟨n - 1, by omega⟩
            obtain ⟨b2, hb2'⟩ : ∃ b2 : Nat, (b : Int) - 1 = b2 := ⟨b - 1, by omega⟩
            have hki : ¬ (k : Int) < 0 := by omega
            have hN := Lib.hid (show bts (t ++ ⟨#[110]⟩) ++ atN s c n1 b2 k = R by rw [hb1.out, ← hL.out, atN, if_neg (by rw [hX]; omega), hX, Nat.sub_zero, show n - 1 = n1 by omega, show b - 1 = b2 by omega]; simp)
            have hG := Lib.hid (show k < gdN s c n1 b2 by rw [Nat.sub_zero, show n - 1 = n1 by omega, show b - 1 = b2 by omega] at g3; rw [show s = c + n1 by omega]; exact g3)
            clear hX
            go_wp2_with (fail)
            go_roundw
            case rel => exact ⟨c, n1, b2, k, s, _, by omega, by omega, by omega, by omega, by omega, rfl, rfl, rfl, by first | rfl | (simp), rfl, hN, hG, hbe⟩
            case measure => simp only [intOf]; omega
        | zero =>
          have hc0 : c = 0 := by omega
          have hn0 : n = 0 := by omega
          have hsi : ¬ (0 : Int) < ((0 : Nat) : Int) := by omega
          have hRo := Lib.hid (show t = ⟨R.toArray⟩ by rw [← hL.out, atN, List.append_nil, mk_bts])
          go_wp2_with (fail)
          go_ret2
          exact ⟨by rw [← hRo.out]; rfl, hbe⟩
  · have hA := Lib.hid (show atE c n b k = E by unfold atE; rw [hE, if_pos h0])
    have hB := Lib.hid (show atV c n b k = [] by unfold atV; rw [hA.out, if_neg h0])
    have hk0 : (E != 0) = true := by simp [h0]
    have hk1 : (E == 0) = false := by simp [h0]
    rw [hA.out, hB.out]
    clear hE
    go_enter Tryd.func28, Tryd.ntmps28
    go_wp2_with (first
      | (go_at_call 56; (with_reducible refine (asked_any _ _ _ _).mono ?_); rintro e wz ⟨rfl, hwz⟩; replace hwz := hwz.symm; subst hwz; rw [hEH.out]))
    go_ret2
    exact ⟨rfl, Below.refl _ _⟩
end Go.Proofs.YtfcfhiekkpflcaaDoor
