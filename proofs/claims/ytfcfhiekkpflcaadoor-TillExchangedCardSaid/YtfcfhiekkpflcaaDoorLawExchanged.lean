/- The law's TillExchanged. -/
import Derived.Test.YtfcfhiekkpflcaaDoorWorks
import Derived.Test.YtfcfhiekkpflcaaDoorExP
import Derived.Test.YtfcfhiekkpflcaaDoorMapB
import Derived.Test.YtfcfhiekkpflcaaDoorLawBallots
import Derived.StringKeys
namespace Go.Proofs.YtfcfhiekkpflcaaDoor
open Go.RowKit Go.Maps
theorem keyStr : Keyed Tryd.prog 9 := string_keyed Tryd.underlying9
set_option maxRecDepth 100000 in
theorem conv_one (w : World) (c : UInt8) (k : Int) (hk : k = c.toNat) : (convert 61 9 (.slice (some ⟨w.heap.size, 0, none⟩) 1 1)).run Tryd.prog (w.alloc (.cells #[.int .u8 k] 5)) = .ok (.string ⟨#[c]⟩) (w.alloc (.cells #[.int .u8 k] 5)) := by
  subst hk
  exact run_convert_bytes_back (P := Tryd.prog) (w.alloc (.cells #[.int .u8 (c.toNat : Int)] 5)) 61 9 5 ⟨w.heap.size, 0, none⟩ 1 [c] Tryd.underlying61 Tryd.underlying5 Tryd.underlying9 (fun j hj => by
    obtain rfl : j = 0 := by simpa using hj
    exact (Blk.new w 5 #[.int .u8 (c.toNat : Int)]).cell 0)
theorem ex_vals {l : Word} {b : Nat} (hop : opT l b = 0) (hok : okT l = true) (hl : ¬ lacksT l b < 0) : exV l b = flR l b ∧ lackE l b = 0 := by
  refine ⟨?_, (coin_bad hop hl).2.2.2⟩
  unfold exV
  rw [if_pos ⟨hop, by omega⟩, fl_ex hok b hl]
theorem ex_none {l : Word} {b : Nat} (hop : opT l b = 0) (hl : lacksT l b < 0) : exV l b = [] ∧ lackE l b = 12 := by
  refine ⟨?_, (coin_good hop hl).2.2.2⟩
  unfold exV
  rw [if_neg (by omega)]
theorem any_snoc {l : List Int} {p : Int → Bool} {i : Nat} {x : Int} (h : l[i]? = some x) : (l.take (i + 1)).any p = ((l.take i).any p || p x) := by
  rw [List.take_add_one, h, Option.toList_some, List.any_append]
  simp
set_option maxRecDepth 100000 in
set_option maxHeartbeats 8000000 in
theorem exchanged_law (x0 x1 x2 : Int) (hx0 : 0 ≤ x0 ∧ x0 ≤ 255) (hx1 : 0 ≤ x1 ∧ x1 ≤ 255) (hx2 : 0 ≤ x2 ∧ x2 ≤ 255) (w : World) : Calls Tryd.prog 12 #[.int .u8 x0, .int .u8 x1, .int .u8 x2] w fun e w' => e = .returned (.bool true) ∧ Below w.heap.size w w' := by
  have hmm := @run_makeMap Tryd.prog
  obtain ⟨n, hn⟩ : ∃ n : Nat, x0 % 11 = n := ⟨(x0 % 11).toNat, by omega⟩
  have hn1 : Int.tmod x0 11 = n := by rw [Int.tmod_eq_emod_of_nonneg (by omega)]; exact hn
  have hn10 : n ≤ 10 := by omega
  obtain ⟨N, hN⟩ : ∃ N : Nat, x1 % ((n : Int) + 1) = N := ⟨(x1 % ((n : Int) + 1)).toNat, by have := Int.emod_nonneg x1 (show (n : Int) + 1 ≠ 0 by omega); omega⟩
  have hN1 : Int.tmod x1 ((n : Int) + 1) = N := by rw [Int.tmod_eq_emod_of_nonneg (by omega)]; exact hN
  have hNn : N ≤ n := by have := Int.emod_lt_of_pos x1 (show 0 < (n : Int) + 1 by omega); omega
  obtain ⟨b, hb⟩ : ∃ b : Nat, x2 % 5 = b := ⟨(x2 % 5).toNat, by omega⟩
  have hb1 : Int.tmod x2 5 = b := by rw [Int.tmod_eq_emod_of_nonneg (by omega)]; exact hb
  have hb4 : b ≤ 4 := by omega
  have hpow : 2 ^ n ≤ 2 ^ 10 := Nat.pow_le_pow_right (by omega) hn10
  have hpv : (2 : Nat) ^ 10 = 1024 := by decide
  obtain ⟨P, hP⟩ : ∃ P, 2 ^ n = P := ⟨_, rfl⟩
  have hP1 : (2 : Int) ^ n % 4294967296 = P := by
    have : (2 : Int) ^ n = ((2 ^ n : Nat) : Int) := by simp
    rw [this, hP]
    omega
  have hPH := Lib.hid hP
  rw [hP, hpv] at hpow
  have hbe := (Below.refl w.heap.size w).alloc (Nat.le_refl _) (.map #[] 0)
  have hnN : (n : Int) + 1 ≠ 0 := by omega
  have hS0 := SetM.made (P := Tryd.prog) (e := 4) w 9
  have hM0 := Lib.hid (show ∀ W : Word, ((fun _ => false : Lit → Bool) (.string W) = true ↔ MetS n N b 0 W) from fun W => ⟨fun h => (by cases h), fun ⟨y, hy, _⟩ => (by omega)⟩)
  clear hP hpv hn hN hb
  go_enter Tryd.func12, Tryd.ntmps12
  go_wp2_with (fail)
  go_loopw [11, 12] (fun c v wr => ∃ (x k nn : Nat) (S : Lit → Bool), x ≤ P ∧ v = .int .u32 x ∧ c = .int .i64 k ∧ k ≤ x ∧ nn ≤ x ∧ Hid (cntP (bP n N b) x = k) ∧ SetM Tryd.prog 4 wr 9 w.heap.size nn k S ∧ Hid (∀ W : Word, S (.string W) = true ↔ MetS n N b x W) ∧ Below w.heap.size w wr) (fun _ v _ => P - (intOf v).toNat)
  case atStart => exact ⟨0, 0, 0, _, by omega, rfl, rfl, Nat.le_refl _, Nat.le_refl _, Lib.hid rfl, hS0, hM0, hbe⟩
  case round =>
    clear hbe hS0 hM0
    obtain ⟨x, k, nn, S, hxP, rfl, rfl, hkx, hnx, hk, hS, hM, hbe⟩ := hrel
    obtain ⟨wa, rfl⟩ : ∃ x, x = wr := ⟨wr, rfl⟩
    by_cases hlt : x < P
    · have hlti : (x : Int) < P := by omega
      have hxn : x < 2 ^ n := by rw [hPH.out]; exact hlt
      have co := Lib.hid (fun w' => ones_any x (by omega) w')
      rw [pc_sixteen (n := n) (by omega) hxn] at co
      obtain ⟨p, hp⟩ : ∃ p, pcW n x = p := ⟨_, rfl⟩
      rw [hp] at co
      by_cases hpN : p = N
      · subst hpN
        obtain ⟨T, hT, hbT, hTs⟩ := sp_letter n x
        have cs := Lib.hid (fun w' => spelled_any n x (by omega) (by omega) w')
        rw [hT] at cs
        have cr := Lib.hid (fun w' => run_any T b (by omega) (by omega) w')
        have ce := Lib.hid (fun w' => Exchange_any T b w')
        rw [hbT] at cr ce
        have hop := spW_op (n := n) (b := b) (by omega) (by omega) x
        have hok := spW_ok n x
        have hbi := bP_is (b := b) hp
        have hbk := Lib.hid (fun W => met_step (n := n) (N := p) (b := b) (x := x) W)
        by_cases hl : lacksT (spW n x) b < 0
        · obtain ⟨e1, e2⟩ := ex_none hop hl
          rw [e1, e2] at ce
          rw [decide_eq_false (fun h => h hl)] at hbi
          have hN2 := Lib.hid (show cntP (bP n p b) (x + 1) = k by rw [cntP, hbi, hk.out]; rfl)
          have hM2 := Lib.hid (show ∀ W : Word, S (.string W) = true ↔ MetS n p b (x + 1) W from fun W => by
            rw [hbk.out W, hM.out W, hbi]
            exact ⟨Or.inl, fun h => h.elim id (fun h => by cases h.1)⟩)
          obtain ⟨M, hMl⟩ : ∃ M, lacksT (spW n x) b = M := ⟨_, rfl⟩
          rw [hMl] at hl cr
          obtain ⟨X, hX⟩ : ∃ X, stepsT (b : Int) (spW n x) = X := ⟨_, rfl⟩
          rw [hX] at cr
          clear e1 e2 hbi hp hT hbT hMl hX hop hok
          go_wp2_with (first
            | (go_at_call 44; (with_reducible refine (co.out _).mono ?_); rintro e w1 ⟨rfl, hb1⟩; replace hbe := hbe.trans (hb1.mono hbe.size); replace hS := hS.callee hb1; clear hb1)
            | (go_at_call 45; (with_reducible refine (cs.out _).mono ?_); rintro e wz ⟨rfl, hwz⟩; replace hwz := hwz.symm; subst hwz)
            | (go_at_call 42; (with_reducible refine (cr.out _).mono ?_); rintro e w2 ⟨v2, rfl, ho2, hb2⟩; replace hbe := hbe.trans (hb2.mono hbe.size); replace hS := hS.callee hb2; clear hb2 ho2)
            | (go_at_call 35; (with_reducible refine (ce.out _).mono ?_); rintro e w3 ⟨rfl, hb3⟩; replace hbe := hbe.trans (hb3.mono hbe.size); replace hS := hS.callee hb3; clear hb3))
          go_roundw
          case rel => exact ⟨x + 1, k, nn, S, by omega, by go_num, rfl, by omega, by omega, hN2, hS, hM2, hbe⟩
          case measure => simp only [intOf]; omega
        · obtain ⟨e1, e2⟩ := ex_vals hop hok hl
          rw [decide_eq_true hl] at hbi
          have hN2 := Lib.hid (show cntP (bP n p b) (x + 1) = k + 1 by rw [cntP, hbi, hk.out]; rfl)
          obtain ⟨X, hX⟩ : ∃ X, flR (spW n x) b = X := ⟨_, rfl⟩
          have hfe := fl_ex hok b hl
          rw [hX] at e1 hfe
          obtain ⟨O, hO⟩ : ∃ O : ByteArray, (⟨X.toArray⟩ : ByteArray) = O := ⟨_, rfl⟩
          have hbO : bts O = X := by rw [← hO, bts_mk]
          have hXl : X.length = n := by rw [← hX, flR_len, spW_len]
          rw [e1, e2, hO] at ce
          have hnew := met_new (n := n) (N := p) (b := b) hxn
          rw [hX] at hnew
          have hS0 : S (.string X) = false := by
            cases hs : S (.string X) with
            | false => rfl
            | true => exact absurd ((hM.out X).1 hs) hnew
          have hM2 := Lib.hid (show ∀ W : Word, (fun z => S z || z.sameKey (.string X)) (.string W) = true ↔ MetS n p b (x + 1) W from fun W => by
            show (S (.string W) || (W == X)) = true ↔ _
            rw [hbk.out W, ← hM.out W, hbi, hX, Bool.or_eq_true, beq_iff_eq]
            exact ⟨fun h => h.imp id (fun e => ⟨rfl, e.symm⟩), fun h => h.imp id (fun e => e.2.symm)⟩)
          obtain ⟨M, hMl⟩ : ∃ M, lacksT (spW n x) b = M := ⟨_, rfl⟩
          rw [hMl] at hl cr hfe
          obtain ⟨Y, hY⟩ : ∃ Y, stepsT (b : Int) (spW n x) = Y := ⟨_, rfl⟩
          rw [hY] at cr
          have hget := Lib.hid (fun (i : Nat) (hi : i < T.size) => exT_get (n := (M + 1).toNat) (bts_at T i hi))
          rw [hbT, hfe] at hget
          have hokT : okT (bts T) = true := by rw [hbT]; exact hok
          have hokH := Lib.hid hokT
          have hM0 : 0 ≤ M := by omega
          have hMz : decide (M < 0) = false := decide_eq_false hl
          have hkey : keyOf Tryd.prog 9 (.string O) = some (.string X) := by
            rw [WideMaps.keyOf_string_mk Tryd.underlying9 (by rw [← bts_len, hbO, hXl]; unfold maxLen; omega)]
            exact congrArg (fun z => some (Lit.string z)) hbO
          have hkeyH := Lib.hid hkey
          clear e1 e2 hbi hp hT hMl hX hY hop hok hfe hnew hokT hkey hbT
          go_wp2_with (first
            | (go_at_call 44; (with_reducible refine (co.out _).mono ?_); rintro e w1 ⟨rfl, hb1⟩; replace hbe := hbe.trans (hb1.mono hbe.size); replace hS := hS.callee hb1; clear hb1)
            | (go_at_call 45; (with_reducible refine (cs.out _).mono ?_); rintro e wz ⟨rfl, hwz⟩; replace hwz := hwz.symm; subst hwz)
            | (go_at_call 42; (with_reducible refine (cr.out _).mono ?_); rintro e w2 ⟨v2, rfl, ho2, hb2⟩; replace hbe := hbe.trans (hb2.mono hbe.size); replace hS := hS.callee hb2; clear hb2 ho2)
            | (go_at_call 35; (with_reducible refine (ce.out _).mono ?_); rintro e w3 ⟨rfl, hb3⟩; replace hbe := hbe.trans (hb3.mono hbe.size); replace hS := hS.callee hb3; clear hb3))
          go_loopw [18, 77] (fun o v wr2 => ∃ (i : Nat) (t : ByteArray), i ≤ n ∧ v = .int .i64 i ∧ o = .string t ∧ t.size = i ∧ Hid (bts t = X.take i) ∧ SetM Tryd.prog 4 wr2 9 w.heap.size nn k S ∧ Below w.heap.size w wr2) (fun _ v _ => n - (intOf v).toNat)
          case atStart => exact ⟨0, ⟨#[]⟩, by omega, rfl, rfl, rfl, Lib.hid (by simp [bts]), hS, hbe⟩
          case round =>
            clear hS hbe
            obtain ⟨i, t, hi, rfl, rfl, hts, ht, hS, hbe⟩ := hrel
            obtain ⟨wb, rfl⟩ : ∃ x, x = wr := ⟨wr, rfl⟩
            by_cases hlt2 : i < n
            · have hlti2 : (i : Int) < n := by omega
              have hiT : i < T.size := by omega
              have hgt := hget.out i hiT
              have hyy := okT_at hokH.out (List.mem_of_getElem? (bts_at T i hiT))
              have hti : (t.size : Int) ≤ 16 := by omega
              have hc1 := conv_one wb 110 110 rfl
              have hc2 := conv_one wb 99 99 rfl
              have ha1 : ∀ w', (Op.stringOp .add t ⟨#[110]⟩).run Tryd.prog w' = .ok (.string (t ++ ⟨#[110]⟩)) w' := fun w' => run_string_add w' _ _ (by omega) (by decide)
              have ha2 : ∀ w', (Op.stringOp .add t ⟨#[99]⟩).run Tryd.prog w' = .ok (.string (t ++ ⟨#[99]⟩)) w' := fun w' => run_string_add w' _ _ (by omega) (by decide)
              have hs1 : (t ++ ⟨#[110]⟩ : ByteArray).size = i + 1 := by rw [← bts_len, bts_append, List.length_append, bts_len, hts]; rfl
              have hs2 : (t ++ ⟨#[99]⟩ : ByteArray).size = i + 1 := by rw [← bts_len, bts_append, List.length_append, bts_len, hts]; rfl
              have hX1 : X.take (i + 1) = X.take i ++ [if i < (M + 1).toNat then flipC T[i] else T[i]] := by rw [List.take_add_one, hgt]; rfl
              have hS1 := hS.kept (World.grownBy_alloc wb (.cells #[.int .u8 110] 5) none) (by simp)
              have hS2 := hS.kept (World.grownBy_alloc wb (.cells #[.int .u8 99] 5) none) (by simp)
              have hbe1 := hbe.alloc hbe.size (.cells #[.int .u8 110] 5)
              have hbe2 := hbe.alloc hbe.size (.cells #[.int .u8 99] 5)
              clear hgt
              by_cases hiM : (i : Int) ≤ M
              · rw [if_pos (by omega)] at hX1
                rcases hyy with hy | hy
                · have hg1 : ((T[i].toNat : Int) == 99) = true := by rw [hy]; rfl
                  have hy2 : (T[i].toNat : Int) = 99 := by rw [hy]; rfl
                  have hN := Lib.hid (show bts (t ++ ⟨#[110]⟩) = X.take (i + 1) by rw [hX1, bts_append, ht.out, hy]; rfl)
                  clear hX1 hy hc2 ha2 hS2 hbe2
                  go_wp2_with (fail)
                  go_roundw
                  case rel => exact ⟨i + 1, _, by omega, by go_num, rfl, hs1, hN, hS1, hbe1⟩
                  case measure => simp only [intOf]; omega
                · have hg1 : ((T[i].toNat : Int) == 99) = false := by rw [hy]; rfl
                  have hN := Lib.hid (show bts (t ++ ⟨#[99]⟩) = X.take (i + 1) by rw [hX1, bts_append, ht.out, hy]; rfl)
                  clear hX1 hy hc1 ha1 hS1 hbe1
                  go_wp2_with (fail)
                  go_roundw
                  case rel => exact ⟨i + 1, _, by omega, by go_num, rfl, hs2, hN, hS2, hbe2⟩
                  case measure => simp only [intOf]; omega
              · rw [if_neg (by omega)] at hX1
                have hiMd : decide ((i : Int) ≤ M) = false := decide_eq_false hiM
                rcases hyy with hy | hy
                · have hy2 : (T[i].toNat : Int) = 99 := by rw [hy]; rfl
                  have hN := Lib.hid (show bts (t ++ ⟨#[99]⟩) = X.take (i + 1) by rw [hX1, bts_append, ht.out, hy]; rfl)
                  clear hX1 hy hc1 ha1 hS1 hbe1
                  go_wp2_with (fail)
                  go_roundw
                  case rel => exact ⟨i + 1, _, by omega, by go_num, rfl, hs2, hN, hS2, hbe2⟩
                  case measure => simp only [intOf]; omega
                · have hy2 : (T[i].toNat : Int) = 110 := by rw [hy]; rfl
                  have hN := Lib.hid (show bts (t ++ ⟨#[110]⟩) = X.take (i + 1) by rw [hX1, bts_append, ht.out, hy]; rfl)
                  clear hX1 hy hc2 ha2 hS2 hbe2
                  go_wp2_with (fail)
                  go_roundw
                  case rel => exact ⟨i + 1, _, by omega, by go_num, rfl, hs1, hN, hS1, hbe1⟩
                  case measure => simp only [intOf]; omega
            · have hlti2 : ¬ (i : Int) < n := by omega
              have htO := Lib.hid (show t = O by
                apply bts_inj
                rw [ht.out, hbO, List.take_of_length_le (by omega)])
              rw [htO.out]
              obtain ⟨w5, hup, hS5, hg5⟩ := hS.put keyStr Tryd.underlying60 Tryd.underlying4 (by unfold maxLen; omega) hkeyH.out
              rw [hS0, if_neg (by decide)] at hS5
              have hb5 := below_some hbe hg5 hbe.size (Nat.le_refl _)
              clear hg5
              go_wp2_with (fail)
              go_roundw
              case rel => exact ⟨x + 1, k + 1, nn + 1, fun z => S z || z.sameKey (.string X), by omega, by go_num, by go_num, by omega, by omega, hN2, hS5, hM2, hb5⟩
              case measure => simp only [intOf]; omega
      · have hpN0 : ((p : Int) == N) = false := by simp; omega
        have hbn := bP_no (b := b) (show pcW n x ≠ N by rw [hp]; exact hpN)
        have hN2 := Lib.hid (show cntP (bP n N b) (x + 1) = k by rw [cntP, hbn, hk.out]; rfl)
        have hM2 := Lib.hid (show ∀ W : Word, S (.string W) = true ↔ MetS n N b (x + 1) W from fun W => by
          rw [met_step, hM.out W, hbn]
          exact ⟨Or.inl, fun h => h.elim id (fun h => by cases h.1)⟩)
        clear hp hbn
        go_wp2_with (first
          | (go_at_call 44; (with_reducible refine (co.out _).mono ?_); rintro e w1 ⟨rfl, hb1⟩; replace hbe := hbe.trans (hb1.mono hbe.size); replace hS := hS.callee hb1; clear hb1))
        go_roundw
        case rel => exact ⟨x + 1, k, nn, S, by omega, by go_num, rfl, by omega, by omega, hN2, hS, hM2, hbe⟩
        case measure => simp only [intOf]; omega
    · have hlti : ¬ (x : Int) < P := by omega
      obtain rfl : x = P := by omega
      have htot := Lib.hid (aQ_all n N b)
      rw [hPH.out, hk.out] at htot
      have hmet := Lib.hid (fun y (h : aQ n N b y = true) => met_all h)
      rw [hPH.out] at hmet
      clear hk
      go_wp2_with (fail)
      go_loopw [21, 22] (fun c v wr => ∃ y a : Nat, y ≤ x ∧ v = .int .u32 y ∧ c = .int .i64 a ∧ a ≤ y ∧ Hid (cntP (aQ n N b) y = a) ∧ SetM Tryd.prog 4 wr 9 w.heap.size nn k S ∧ Below w.heap.size w wr) (fun _ v _ => x - (intOf v).toNat)
      case atStart => exact ⟨0, 0, by omega, rfl, rfl, Nat.le_refl _, Lib.hid rfl, hS, hbe⟩
      case round =>
        clear hbe hS
        obtain ⟨y, a, hyx, rfl, rfl, hay, hka, hS, hbe⟩ := hrel
        obtain ⟨wb, rfl⟩ : ∃ x, x = wr := ⟨wr, rfl⟩
        by_cases hlt2 : y < x
        · have hlti2 : (y : Int) < x := by omega
          have hyn : y < 2 ^ n := by rw [hPH.out]; exact hlt2
          have co := Lib.hid (fun w' => ones_any y (by omega) w')
          rw [pc_sixteen (n := n) (by omega) hyn] at co
          obtain ⟨p, hp⟩ : ∃ p, pcW n y = p := ⟨_, rfl⟩
          rw [hp] at co
          by_cases hpN : (p : Int) = (N : Int) - b - 1
          · have hpN0 : ((p : Int) == (N : Int) - b - 1) = true := by simp [hpN]
            obtain ⟨T, hT, hbT, hTs⟩ := sp_letter n y
            have cs := Lib.hid (fun w' => spelled_any n y (by omega) (by omega) w')
            rw [hT] at cs
            have cr := Lib.hid (fun w' => run_any T 0 (by omega) (by omega) w')
            rw [hbT] at cr
            have hai : aQ n N b y = (stepsT 0 (spW n y)).any fun x => decide ((b : Int) < x) := by
              unfold aQ
              rw [hp, decide_eq_true hpN, Bool.true_and, ahead_iff (spW_ok n y)]
            obtain ⟨L, hL⟩ : ∃ L, stepsT 0 (spW n y) = L := ⟨_, rfl⟩
            have hLl : L.length = n := by rw [← hL, steps_len, spW_len]
            obtain ⟨M, hM2⟩ : ∃ M, lacksT (spW n y) 0 = M := ⟨_, rfl⟩
            rw [hL, hM2] at cr
            rw [hL] at hai
            have haiH := Lib.hid hai
            have hbTH := Lib.hid hbT
            have hkey : keyOf Tryd.prog 9 (.string T) = some (.string (bts T)) :=
              WideMaps.keyOf_string_mk Tryd.underlying9 (by unfold maxLen; omega)
            have hkeyH := Lib.hid hkey
            clear hp hT hL hM2 hai hbT hkey hpN
            go_wp2_with (first
              | (go_at_call 44; (with_reducible refine (co.out _).mono ?_); rintro e w1 ⟨rfl, hb1⟩; replace hbe := hbe.trans (hb1.mono hbe.size); replace hS := hS.callee hb1; clear hb1)
              | (go_at_call 45; (with_reducible refine (cs.out _).mono ?_); rintro e wz ⟨rfl, hwz⟩; replace hwz := hwz.symm; subst hwz)
              | (go_at_call 42; (with_reducible refine (cr.out _).mono ?_); rintro e w2 ⟨v2, rfl, ho2, hb2⟩; replace hbe := hbe.trans (hb2.mono hbe.size); replace hS := hS.callee hb2
                 obtain ⟨A2, c2, hv2, hr2⟩ := ho2.reads
                 rw [hLl] at hv2 hr2
                 subst hv2
                 clear hb2 ho2))
            have hlook := hS.look keyStr Tryd.underlying60 Tryd.underlying4 (Tryd.zeroValue4 w2) hkeyH.out
            go_loopw [26, 131] (fun c v wr2 => ∃ (i : Nat) (q : Bool), i ≤ n ∧ v = .int .i64 i ∧ c = .bool q ∧ Hid ((L.take i).any (fun x => decide ((b : Int) < x)) = q) ∧ w2 = wr2) (fun _ v _ => n - (intOf v).toNat)
            case atStart => exact ⟨0, false, by omega, rfl, rfl, Lib.hid rfl, rfl⟩
            case round =>
              obtain ⟨i, q, hi, rfl, rfl, hq, hw3⟩ := hrel
              subst hw3
              by_cases hlt3 : i < n
              · have hlti3 : (i : Int) < n := by omega
                obtain ⟨ad, z, rfl, _, hcell, hz⟩ := hr2.at_ hlt3
                have hal := Lib.hid (any_snoc (p := fun x => decide ((b : Int) < x)) hz.out)
                cases q with
                | true =>
                  have hN := Lib.hid (show (L.take (i + 1)).any (fun x => decide ((b : Int) < x)) = true by rw [hal.out, hq.out]; rfl)
                  go_wp2_with (fail)
                  go_roundw
                  case rel => exact ⟨i + 1, true, by omega, by go_num, rfl, hN, by first | rfl | trivial⟩
                  case measure => simp only [intOf]; omega
                | false =>
                  obtain ⟨g, hg⟩ : ∃ g, decide ((b : Int) < z) = g := ⟨_, rfl⟩
                  have hN := Lib.hid (show (L.take (i + 1)).any (fun x => decide ((b : Int) < x)) = g by rw [hal.out, hq.out, ← hg]; rfl)
                  go_wp2_with (fail)
                  go_roundw
                  case rel => exact ⟨i + 1, g, by omega, by go_num, by first | rfl | (rw [hg]), hN, by first | rfl | trivial⟩
                  case measure => simp only [intOf]; omega
              · have hlti3 : ¬ (i : Int) < n := by omega
                have hqe := hq.out
                rw [List.take_of_length_le (by omega), ← haiH.out] at hqe
                cases q with
                | true =>
                  have hN2 := Lib.hid (show cntP (aQ n N b) (y + 1) = a + 1 by rw [cntP, hqe, hka.out]; rfl)
                  have hin : S (.string (bts T)) = true := (hM.out (bts T)).2 (by rw [hbTH.out]; exact hmet.out y hqe)
                  rw [hin] at hlook
                  clear hqe hin
                  go_wp2_with (fail)
                  go_roundw
                  case rel => exact ⟨y + 1, a + 1, by omega, by go_num, by go_num, by omega, hN2, hS, hbe⟩
                  case measure => simp only [intOf]; omega
                | false =>
                  have hN2 := Lib.hid (show cntP (aQ n N b) (y + 1) = a by rw [cntP, hqe, hka.out]; rfl)
                  clear hqe hlook
                  go_wp2_with (fail)
                  go_roundw
                  case rel => exact ⟨y + 1, a, by omega, by go_num, rfl, by omega, hN2, hS, hbe⟩
                  case measure => simp only [intOf]; omega
          · have hpN0 : ((p : Int) == (N : Int) - b - 1) = false := by simpa using hpN
            have hN2 := Lib.hid (show cntP (aQ n N b) (y + 1) = a by
              have : aQ n N b y = false := by unfold aQ; rw [hp, decide_eq_false hpN, Bool.false_and]
              rw [cntP, this, hka.out]; rfl)
            clear hp
            go_wp2_with (first
              | (go_at_call 44; (with_reducible refine (co.out _).mono ?_); rintro e w1 ⟨rfl, hb1⟩; replace hbe := hbe.trans (hb1.mono hbe.size); replace hS := hS.callee hb1; clear hb1))
            go_roundw
            case rel => exact ⟨y + 1, a, by omega, by go_num, rfl, by omega, hN2, hS, hbe⟩
            case measure => simp only [intOf]; omega
        · have hlti2 : ¬ (y : Int) < x := by omega
          obtain rfl : y = x := by omega
          obtain rfl : a = k := by rw [← hka.out, htot.out]
          have hlen := fun ty => hS.len Tryd.underlying60 ty
          go_wp2_with (first
            | (go_at_call 13; (with_reducible refine (works_any _).mono ?_); rintro e w9 ⟨rfl, hb9⟩; replace hbe := hbe.trans (hb9.mono hbe.size)))
          go_ret
          exact ⟨rfl, hbe⟩
end Go.Proofs.YtfcfhiekkpflcaaDoor
