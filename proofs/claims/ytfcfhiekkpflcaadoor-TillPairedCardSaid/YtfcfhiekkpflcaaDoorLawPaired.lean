/- The law's TillPaired. -/
import Derived.Test.YtfcfhiekkpflcaaDoorPrA
import Derived.BigQuiet
namespace Go.Proofs.YtfcfhiekkpflcaaDoor
open Go.RowKit Go.Maps
set_option maxRecDepth 100000 in
set_option maxHeartbeats 16000000 in
theorem paired_law (a b : Nat) (x : Int) (ha : a ≤ 255) (hb : b ≤ 65535) (hx : 0 ≤ x ∧ x ≤ 255) (w : World) : Calls Tryd.prog 9 #[.agg #[.int .u8 (a : Int), .int .u16 (b : Int)], .int .u8 x] w fun e w' => e = .returned (.bool true) ∧ Below w.heap.size w w' := by
  have hmm := @run_makeMap Tryd.prog
  have uP := Tryd.underlying52
  have aP := Tryd.isAgg52
  have zP := Tryd.sizeOf52
  have cm := Lib.hid (fun w' => made_any a b ha hb w')
  obtain ⟨T, hT, hT16, hok, hck⟩ := que_letter a b
  rw [hT] at cm
  obtain ⟨r, hr⟩ : ∃ r : Nat, x % 8 = r := ⟨(x % 8).toNat, by omega⟩
  have hr1 : Int.tmod x 8 = r := by rw [Int.tmod_eq_emod_of_nonneg (by omega)]; exact hr
  have hr7 : r ≤ 7 := by omega
  have hop : opT (bts T) r = 0 := op_in hck (by omega) (by omega)
  have c0 := Lib.hid (fun w' => run_any T 0 (by omega) (by omega) w')
  have c1 := Lib.hid (fun w' => Pairs_any T w')
  have c2 := Lib.hid (fun w' => Served_any T r w')
  have c3 := Lib.hid (fun w' => run_any T r (by omega) (by omega) w')
  obtain ⟨M0, hM0⟩ : ∃ M, lacksT (bts T) 0 = M := ⟨_, rfl⟩
  obtain ⟨PL, hPL⟩ : ∃ L, pairL (bts T) = L := ⟨_, rfl⟩
  obtain ⟨PE, hPE⟩ : ∃ L, pairE (bts T) = L := ⟨_, rfl⟩
  obtain ⟨F0, hF0⟩ : ∃ L, stepsT 0 (bts T) = L := ⟨_, rfl⟩
  rw [hM0, hF0] at c0
  rw [hPL, hPE] at c1
  have hcase : (0 ≤ M0 ∧ PE = 14 ∧ PL = []) ∨ (M0 < 0 ∧ PE = 0 ∧ PL = pairT (bts T) 0 []) := by
    rw [← hPE, ← hPL]
    unfold pairE pairL
    rw [hck, hM0]
    by_cases h : M0 < 0
    · right; exact ⟨h, by simp [h], by simp [h]⟩
    · left; exact ⟨by omega, by simp [h], by simp [h]⟩
  have hPl : PL.length ≤ 16 := by have := pairL_len (bts T); rw [hPL, bts_len] at this; omega
  have hcaseH := Lib.hid hcase
  have hM0H := Lib.hid hM0
  have hokH := Lib.hid hok
  have hopH := Lib.hid hop
  clear hT hr hPL hPE hF0 hck hok ha hb hcase hM0 hop
  go_enter Tryd.func9, Tryd.ntmps9
  go_upto_if 53 with (first
    | (with_reducible show wpList _ _ _ (⟨_, .box 45 _, _, _, _, _⟩ :: _) _ _
       refine wpList_box_blk rfl 45 _ rfl #[.int .u8 (a : Int), .int .u16 (b : Int)] rfl ?_
       intro w1 g hG hgr hge
       have hb1 : Below w.heap.size w w1 := below_none (Below.refl _ _) hgr (Nat.le_refl _)
       clear hgr)
    | (with_reducible show wpList _ _ _ (⟨_, .load 45 _, _, _, _, _⟩ :: _) _ _
       refine wpList_load_blk rfl 45 _ rfl g rfl 45 _ _ hG Tryd.underlying45 rfl (by kernel_rfl) ?_)
    | (go_at_call 40; (with_reducible refine (cm.out _).mono ?_); rintro e w2 ⟨rfl, hb2⟩; replace hb2 := hb1.trans (hb2.mono hb1.size); clear hb1 hG hge)
    | (go_at_call 42; (with_reducible refine (c0.out _).mono ?_); rintro e w3 ⟨v3, rfl, ho3, hb3⟩; replace hb3 := hb2.trans (hb3.mono hb2.size); clear ho3 hb2)
    | (go_at_call 33; (with_reducible refine (c1.out _).mono ?_); rintro e w4 ⟨v4, rfl, ho4, hb4⟩; replace hb4 := hb3.trans (hb4.mono hb3.size)
       obtain ⟨A9, n9, rfl, hr9⟩ := ho4.reads
       have hcap9 := OwnP.cap ho4
       clear ho4 hb3))
  go_cut [11, 12, 13, 14, 15, 17] from 52 to 170 (fun _ _ _ _ _ _ wx => Below w.heap.size w wx)
  case first =>
    rcases hcaseH.out with ⟨hq, hPE, hPL⟩ | ⟨hq, hPE, hPL⟩
    · subst hPE
      subst hPL
      clear c2 c3
      go_wp2_with (fail)
      go_meet
      exact hb4
    · subst hPE
      have hPLH := Lib.hid hPL
      have hL0 := Lib.hid (show PL.drop 0 = pairT ((bts T).drop 0) 0 [] from hPL)
      have hg0 := Lib.hid (show goodB ((bts T).drop 0) (([] : List Nat).length : Nat) = true from (good_iff (bts T) 0).2 (by rw [hM0H.out]; exact hq))
      clear hPL c2 c3
      have hqd : ¬ 0 ≤ M0 := by omega
      go_wp2_with (fail)
      go_loopw [11, 12, 63] (fun o v12 v63 wr => ∃ (i m : Nat) (st : List Nat), i ≤ T.size ∧ m ≤ PL.length ∧ v63 = .int .i64 i ∧ v12 = .int .i64 m ∧ st.length ≤ i ∧ Hid (PL.drop m = pairT ((bts T).drop i) i st) ∧ Hid (goodB ((bts T).drop i) (st.length : Nat) = true) ∧ OwnI wr w4.heap.size o (nats st) ∧ Below w4.heap.size w4 wr) (fun _ _ v _ => T.size - (intOf v).toNat)
      case atStart => exact ⟨0, 0, [], by omega, by omega, rfl, rfl, by simp, hL0, hg0, OwnI.nil _ _, Below.refl _ _⟩
      case round =>
        obtain ⟨i, m, st, hi, hm, rfl, rfl, hsl, hL, hg, ho, hbe⟩ := hrel
        obtain ⟨wa, rfl⟩ : ∃ x, x = wr := ⟨wr, rfl⟩
        by_cases hlt : i < T.size
        · have hlti : (i : Int) < T.size := by omega
          have hat := bts_at T i hlt
          have hyy := okT_at hokH.out (List.mem_of_getElem? hat)
          have hd : (bts T).drop i = T[i] :: (bts T).drop (i + 1) := by
            have hl : i < (bts T).length := by rw [bts_len]; exact hlt
            rw [List.drop_eq_getElem_cons hl]
            rfl
          have hLo := hL.out
          have hgo := hg.out
          rw [hd] at hLo hgo
          have hnl : (nats st).length = st.length := by simp [nats]
          have hszw := hbe.size
          rcases hyy with hy | hy
          · rw [hy] at hLo hgo
            have hL1 := Lib.hid (show PL.drop m = pairT ((bts T).drop (i + 1)) (i + 1) (st ++ [i]) by rw [hLo, pairT, if_pos rfl])
            have hg1 := Lib.hid (good_coin (i := i) hgo)
            have hns := Lib.hid (show nats (st ++ [i]) = nats st ++ [(i : Int)] by simp [nats])
            have hgy : ((T[i].toNat : Int) == 99) = true := by rw [hy]; rfl
            have hpl : (nats st).length ≤ 1000000000 := by omega
            clear hLo hgo hd hat hy hnl
            go_wp2_with (first
              | (at_builtin
                 refine wpList_push rfl _ _ rfl rfl (ho.none_ (World.grownBy_alloc wa _ none)) wa.heap.size 1 (i : Int) rfl (Blk.new wa _ _) hpl (by show _ ≤ (wa.heap.push _).size; simp; omega) ?_
                 intro g6 cap6 w6 ho6 hgr6 _ _
                 have hb6 := (hbe.alloc hbe.size (.cells #[.int .i64 (i : Int)] 3)).grown hgr6 (by show _ ≤ (wa.heap.push _).size; simp; omega) (fun g hg => ho.ge hg)))
            go_roundw
            case rel => exact ⟨i + 1, m, st ++ [i], by omega, hm, by go_num, rfl, by simp; omega, hL1, hg1, by rw [hns.out]; simpa [OwnI] using ho6, hb6⟩
            case measure => simp only [intOf]; omega
          · rw [hy] at hLo hgo
            obtain ⟨st0, t, rfl, hg1⟩ := good_top (by decide) hgo
            rw [pairT, if_neg (by decide)] at hLo
            have e1 : (st0 ++ [t]).getLastD 0 = t := by simp
            have e2 : (st0 ++ [t]).dropLast = st0 := by simp
            rw [e1, e2] at hLo
            have hmlt : m < PL.length := by
              have := congrArg List.length hLo
              rw [List.length_drop, List.length_cons] at this
              omega
            have hm2 : PL[m]? = some (t, i) ∧ PL.drop (m + 1) = pairT ((bts T).drop (i + 1)) (i + 1) st0 := by
              rw [List.drop_eq_getElem_cons hmlt] at hLo
              injection hLo with h1 h2
              exact ⟨by rw [List.getElem?_eq_getElem hmlt, h1], h2⟩
            have hL1 := Lib.hid hm2.2
            replace hg1 := Lib.hid hg1
            obtain ⟨g9, hA9, hg9, hc9⟩ := hr9.below hbe (by omega)
            subst hA9
            obtain ⟨k0, k1⟩ := hc9 m t i hm2.1
            have hns : nats (st0 ++ [t]) = nats st0 ++ [(t : Int)] := by simp [nats]
            rw [hns] at ho
            obtain ⟨g11, n11, hv11, hc11, hb11, hl11, hcell11⟩ := ho.full (by simp)
            subst hv11
            have hcut := OwnI.cut ho
            have hln : (nats st0).length = st0.length := by simp [nats]
            have htop := hcell11 st0.length (by rw [List.length_append, hln]; simp)
            have htv : (nats st0 ++ [(t : Int)]).getD st0.length 0 = t := by simp [List.getD, ← hln]
            rw [htv] at htop
            have hnn : (nats st0 ++ [(t : Int)]).length = st0.length + 1 := by rw [List.length_append, hln]; rfl
            rw [hnn] at hc11 ⊢
            rw [hln] at hcut
            obtain ⟨q, hq2⟩ : ∃ q, st0.length = q := ⟨_, rfl⟩
            rw [List.length_append, List.length_singleton] at hsl
            rw [hq2] at hsl htop hcut hc11 ⊢
            have hq2H := Lib.hid hq2
            have heq : ∀ w', (Op.equalIn 10000 52 (.agg #[.int .i64 (t : Nat), .int .i64 (i : Nat)]) (.agg #[.int .i64 (t : Nat), .int .i64 (i : Nat)])).run Tryd.prog w' = .ok true w' := fun w' => by rw [eqPair]; simp
            have hgy : ((T[i].toNat : Int) == 99) = false := by rw [hy]; rfl
            have hmi : (m : Int) < PL.length := by omega
            have hqn : (q : Int) ≤ n11 := by omega
            obtain ⟨q1, hq1⟩ : ∃ q1, q + 1 = q1 := ⟨_, rfl⟩
            have hq1i : (q1 : Int) - 1 = q := by omega
            have hq1l : (q : Int) < q1 := by omega
            have hqw : IntKind.i64.wrap (q : Int) = q := by rw [IntKind.wrap_i64]; omega
            have hq10 : ((q1 : Int) == 0) = false := by simp; omega
            have hq1z : ¬ q1 = 0 := by omega
            rw [hq1] at hc11 ⊢
            clear hq1
            clear hLo hgo hd hat hy hnl hm2 hc9 hns hcell11 hln htv hnn hq2 e1 e2 ho
            go_wp2_with (fail)
            go_quiet (fail)
            go_wp2_with (fail)
            go_roundw
            case rel => exact ⟨i + 1, m + 1, st0, by omega, by omega, by go_num, by go_num, by rw [hq2H.out]; omega, hL1, hg1, hcut.drewN _, below_drewN hbe _⟩
            case measure => simp only [intOf]; omega
        · have hlti : ¬ (i : Int) < T.size := by omega
          have hLo := hL.out
          have e0 : (bts T).drop i = [] := List.drop_of_length_le (by rw [bts_len]; omega)
          rw [e0, pairT, List.drop_eq_nil_iff] at hLo
          obtain rfl : m = PL.length := by omega
          clear hLo e0
          go_wp2_with (fail)
          have hapt := Lib.hid (pair_apt (l := bts T) (by rw [hM0H.out]; exact hq))
          rw [← hPLH.out] at hapt
          clear hL hg ho hPLH
          go_loopw [116] (fun v wr => ∃ i2 : Nat, i2 ≤ PL.length ∧ v = .int .i64 i2 ∧ Below w4.heap.size w4 wr) (fun v _ => PL.length - (intOf v).toNat)
          case atStart => exact ⟨0, by omega, rfl, hbe⟩
          case round =>
            clear hbe
            obtain ⟨i2, hi2, rfl, hbe⟩ := hrel
            obtain ⟨wb, rfl⟩ : ∃ x, x = wr := ⟨wr, rfl⟩
            by_cases hlt2 : i2 < PL.length
            · have hlti2 : (i2 : Int) < PL.length := by omega
              obtain ⟨⟨x0, x1⟩, hx0⟩ : ∃ z, PL[i2]? = some z := ⟨_, List.getElem?_eq_getElem hlt2⟩
              obtain ⟨g9, hA9, hg9, hc9⟩ := hr9.below hbe (by omega)
              subst hA9
              obtain ⟨k0, k1⟩ := hc9 i2 x0 x1 hx0
              have hc9H := Lib.hid hc9
              have hi2c : (i2 : Int) ≤ n9 := by omega
              have hxb := hapt.out.2 (x0, x1) (List.mem_of_getElem? hx0)
              rw [bts_len] at hxb
              have hx01 : x0 < x1 := hxb.1
              have hx1b : x1 < T.size := hxb.2
              clear hc9 hxb
              go_wp2_with (first
                | (with_reducible show wpList _ _ _ (⟨_, .alloc 52, _, _, _, _⟩ :: _) _ _
                   refine wpList_alloc_blk rfl 52 rfl _ zero_pr ?_
                   intro w5 g15 hX hgr5 hge5
                   have hb5 := below_none hbe hgr5 hbe.size)
                | (with_reducible show wpList _ _ _ (⟨_, .store 52 _ _, _, _, _, _⟩ :: _) _ _
                   refine wpList_store_blk rfl 52 _ _ rfl g15 #[.int .i64 (x0 : Nat), .int .i64 (x1 : Nat)] rfl rfl 52 _ hX sizePr rfl (pr_one _ _) ?_
                   intro w6 hX6 hgr6
                   have hb6 := below_some hb5 hgr6 hb5.size (Nat.le_trans hbe.size hge5)))
              go_loopw [125] (fun v wr2 => ∃ j : Nat, j ≤ i2 ∧ v = .int .i64 j ∧ Blk wr2 g15 52 #[.int .i64 (x0 : Nat), .int .i64 (x1 : Nat)] ∧ Below w4.heap.size w4 wr2) (fun v _ => i2 - (intOf v).toNat)
              case atStart => exact ⟨0, by omega, rfl, hX6, hb6⟩
              case round =>
                obtain ⟨j, hj, rfl, hX7, hbe7⟩ := hrel
                obtain ⟨wc, rfl⟩ : ∃ x, x = wr := ⟨wr, rfl⟩
                by_cases hlt3 : j < i2
                · have hlti3 : (j : Int) < i2 := by omega
                  obtain ⟨⟨y0, y1⟩, hy0⟩ : ∃ z, PL[j]? = some z := ⟨_, List.getElem?_eq_getElem (by omega)⟩
                  obtain ⟨g9', hA9, hg9', hc9⟩ := hr9.below hbe7 (by omega)
                  injection hA9 with hA9
                  injection hA9 with hA9
                  subst hA9
                  obtain ⟨m0, m1⟩ := hc9 j y0 y1 hy0
                  have hA : Apt (y0, y1) (x0, x1) := by
                    have h1 := List.pairwise_iff_getElem.1 hapt.out.1 j i2 (by omega) hlt2 hlt3
                    rw [(List.getElem?_eq_some_iff.1 hx0).2, (List.getElem?_eq_some_iff.1 hy0).2] at h1
                    exact h1
                  have hA1 : y1 < x1 := hA.1
                  have hA2 : ¬ (y0 < x0 ∧ x0 < y1) := hA.2
                  have hyb := hapt.out.2 (y0, y1) (List.mem_of_getElem? hy0)
                  have hy01 : y0 < y1 := hyb.1
                  have hn1 : ¬ (x1 : Int) < y1 := by omega
                  have hcs : ((y0 : Int) < x0 ∧ ¬ (x0 : Int) < y1 ∧ ¬ (x0 : Int) < y0) ∨ (¬ (y0 : Int) < x0 ∧ (x0 : Int) < y0 ∧ (y0 : Int) < x1) ∨ (¬ (y0 : Int) < x0 ∧ ¬ (x0 : Int) < y0) := by omega
                  have q0 := hX7.cell 0
                  have q1 := hX7.cell 1
                  clear hc9 hA hA2 hyb hx0 hy0
                  rcases hcs with ⟨s1, s2, s3⟩ | ⟨s1, s2, s3⟩ | ⟨s1, s2⟩
                  all_goals
                    go_wp2_with (first
                      | (with_reducible show wpList _ _ _ (⟨_, .alloc 52, _, _, _, _⟩ :: _) _ _
                         refine wpList_alloc_blk rfl 52 rfl _ zero_pr ?_
                         intro w8 g17 hY hgr8 hge8
                         have hb8 := below_none hbe7 hgr8 hbe7.size
                         have hX8 := hX7.none_ hgr8
                         have hne : g15 ≠ g17 := by have := hX7.lt; omega)
                      | (with_reducible show wpList _ _ _ (⟨_, .store 52 _ _, _, _, _, _⟩ :: _) _ _
                         refine wpList_store_blk rfl 52 _ _ rfl g17 #[.int .i64 (y0 : Nat), .int .i64 (y1 : Nat)] rfl rfl 52 _ hY sizePr rfl (pr_one _ _) ?_
                         intro w9 hY9 hgr9
                         have hb9 := below_some hb8 hgr9 hb8.size (Nat.le_trans hbe7.size hge8)
                         have hX9 := hX8.some_ hgr9 hne
                         have p0 := hX9.cell 0
                         have p1 := hX9.cell 1
                         have p2 := hY9.cell 0
                         have p3 := hY9.cell 1))
                    go_roundw
                    case rel => exact ⟨j + 1, by omega, by go_num, hX9, hb9⟩
                    case measure => simp only [intOf]; omega
                · have hlti3 : ¬ (j : Int) < i2 := by omega
                  go_wp2_with (fail)
                  go_roundw
                  case rel => exact ⟨i2 + 1, by omega, by go_num, hbe7⟩
                  case measure => simp only [intOf]; omega
            · have hlti2 : ¬ (i2 : Int) < PL.length := by omega
              go_wp2_with (fail)
              go_meet
              exact hb4.trans (hbe.mono hb4.size)
  case rest =>
    have hbe := hcut
    clear c0 c1 hcaseH hr9 hcap9 hPl hcut hb4
    by_cases hle : (nP (bts T) 0).length ≤ (serC (bts T) r).length
    · obtain ⟨hstep, hlen, hE, hid⟩ := ser_all hokH.out hopH.out hle
      have hend := (ser_le hokH.out).1 hle
      obtain ⟨SL, hSL⟩ : ∃ L, serL (bts T) r = L := ⟨_, rfl⟩
      rw [hSL] at hstep hlen hid
      rw [bts_len] at hlen
      rw [hSL, hE] at c2
      obtain ⟨FL, hFL⟩ : ∃ L, stepsT (r : Int) (bts T) = L := ⟨_, rfl⟩
      obtain ⟨M1, hM1⟩ : ∃ L, lacksT (bts T) (r : Int) = L := ⟨_, rfl⟩
      have hFl : FL.length = T.size := by rw [← hFL, steps_len, bts_len]
      have hFe := Lib.hid (show ∀ j, T.size = j + 1 → FL[j]? = some (endT r (bts T)) from fun j hj => by
        rw [← hFL, steps_get _ _ _ (by rw [bts_len]; omega), show j + 1 = (bts T).length by rw [bts_len]; omega, List.take_length])
      rw [hFL, hM1] at c3
      rw [hM1] at hid
      have hstepH := Lib.hid hstep
      have hidH := Lib.hid hid
      obtain ⟨E1, hE1⟩ : ∃ e, endT (r : Int) (bts T) = e := ⟨_, rfl⟩
      rw [hE1] at hend hFe
      have hn1 : ¬ E1 < 0 := by omega
      clear hstep hid hSL hE hFL hM1 hE1
      go_upto_region 34 with (first
        | (go_at_call 37; (with_reducible refine (c2.out _).mono ?_); rintro e w5 ⟨v18, rfl, ho18, hb5'⟩
           have hb5 := hbe.trans (hb5'.mono hbe.size)
           obtain ⟨A18, n18, hv18, hr18⟩ := ho18.reads
           rw [hlen] at hv18 hr18
           subst hv18
           clear hb5' ho18)
        | (go_at_call 42; (with_reducible refine (c3.out _).mono ?_); rintro e w6 ⟨v20, rfl, ho20, hb6⟩
           obtain ⟨A20, n20, hv20, hr20⟩ := ho20.reads
           rw [hFl] at hv20 hr20
           subst hv20
           clear ho20))
      go_cut [194] from 183 to 194 (fun v wx => v = .bool false ∧ wx = w6)
      case first =>
        by_cases hz : T.size = 0
        · have hz1 : ¬ (0 : Int) < T.size := by omega
          have hz2 : decide ((0 : Int) < T.size) = false := decide_eq_false hz1
          clear hz
          go_wp2_with (fail)
          go_meet
          exact ⟨rfl, rfl⟩
        · obtain ⟨j, hj⟩ : ∃ j, T.size = j + 1 := ⟨T.size - 1, by omega⟩
          have hz1 : (0 : Int) < T.size := by omega
          have hji : (T.size : Int) - 1 = j := by omega
          have hjl : (j : Int) < T.size := by omega
          obtain ⟨ad, z, rfl, _, hcell, hzz⟩ := hr20.at_ (show j < T.size by omega)
          have hze : z = E1 := by
            have := hzz.out
            rw [hFe.out j hj] at this
            injection this with this
            exact this.symm
          subst hze
          clear hz hj
          go_wp2_with (fail)
          go_meet
          exact ⟨by rw [decide_eq_false (by omega)], rfl⟩
      case rest =>
        obtain ⟨rfl, rfl⟩ := hcut
        have hbw : Below w.heap.size w wc := hb5.trans (hb6.mono hb5.size)
        clear hr20 hFe hn1
        obtain ⟨g22, hg22⟩ : ∃ g, wc.heap.size = g := ⟨_, rfl⟩
        have hS0 := SetM.made (P := Tryd.prog) (e := 4) wc 3
        rw [hg22] at hS0
        have hb7 := hb6.alloc hb6.size (.map #[] 0)
        have h5s := hb5.size
        have h6s := hb6.size
        go_wp2_with (first
          | (with_reducible show wpList _ _ _ (⟨_, .alloc 52, _, _, _, _⟩ :: _) _ _
             refine wpList_alloc_blk rfl 52 rfl _ zero_pr ?_
             intro w8 g24 hX8 hgr8 hge8
             have hS8 := hS0.kept hgr8 (by simp)
             have hb8 := below_none hb7 hgr8 hb7.size
             have hne24 : g24 ≠ g22 := by have := hS0.lt; omega)
          | (with_reducible show wpList _ _ _ (⟨_, .store 52 _ _, _, _, _, _⟩ :: _) _ _
             refine wpList_store_blk rfl 52 _ _ rfl g24 #[.int .i64 (-1), .int .i64 (-1)] rfl rfl 52 _ hX8 sizePr rfl (pr_one _ _) ?_
             intro w9 hX9 hgr9
             have hS9 := hS8.kept hgr9 (by simp; omega)
             have hb9 := below_some hb8 hgr9 hb8.size (by have := hb7.size; omega)))
        have hg24 : w5.heap.size ≤ g24 := by have := hb7.size; omega
        have hM0' := Lib.hid (show ∀ c : Int, (fun _ => false : Lit → Bool) (.int .i64 c) = decide (c ∈ SL.take 0) from fun c => rfl)
        have hE0 : endT (r : Int) ((SL.take 0).map (ltr (bts T))) = r := rfl
        go_loopw [23, 25, 219] (fun o c v wr => ∃ (j : Nat) (t : ByteArray) (C a0 a1 : Int) (nn m : Nat) (S : Lit → Bool), j ≤ T.size ∧ v = .int .i64 j ∧ o = .string t ∧ t.size = j ∧ Hid (bts t = (SL.take j).map (ltr (bts T))) ∧ c = .int .i64 C ∧ -10 ≤ C + j ∧ C ≤ 10 + j ∧ Hid (endT (r : Int) ((SL.take j).map (ltr (bts T))) = C) ∧ nn ≤ j ∧ SetM Tryd.prog 4 wr 3 g22 nn m S ∧ Hid (∀ c : Int, S (.int .i64 c) = decide (c ∈ SL.take j)) ∧
          Blk wr g24 52 #[.int .i64 a0, .int .i64 a1] ∧ Hid (a0 = -1 ∨ (a0 ∈ SL.take j ∧ ltr (bts T) a0 = 99)) ∧ Hid (a1 = -1 ∨ (a1 ∈ SL.take j ∧ ltr (bts T) a1 = 110)) ∧ Below w5.heap.size w5 wr) (fun _ _ v _ => T.size - (intOf v).toNat)
        case atStart => exact ⟨0, ⟨#[]⟩, r, -1, -1, 0, 0, _, by omega, rfl, rfl, rfl, Lib.hid rfl, rfl, by omega, by omega, Lib.hid hE0, Nat.le_refl _, hS9, hM0', hX9, Lib.hid (Or.inl rfl), Lib.hid (Or.inl rfl), hb9⟩
        case round =>
          clear hS0 hS8 hS9 hX8 hX9 hM0' hE0 hgr8 hgr9 hb7 hb8 hb9 hge8
          obtain ⟨j, t, C, a0, a1, nn, m, S, hj, rfl, rfl, hts, ht, rfl, hC1, hC2, hC, hnn, hS, hM, hB, hL0, hL1, hbe9⟩ := hrel
          obtain ⟨wa, rfl⟩ : ∃ x, x = wr := ⟨wr, rfl⟩
          by_cases hlt : j < T.size
          · have hlti : (j : Int) < T.size := by omega
            obtain ⟨ad, z, rfl, _, hcell, hz⟩ := (hr18.below hbe9).at_ hlt
            have st := hstepH.out j z hz.out
            obtain ⟨k, rfl⟩ : ∃ k : Nat, z = k := ⟨z.toNat, by have := st.lo; omega⟩
            have hk : k < T.size := by have := st.hi; rw [bts_len] at this; omega
            have hki : (k : Int) < T.size := by omega
            have hat := bts_at T k hk
            have hly := ltr_at hat
            have htk : SL.take (j + 1) = SL.take j ++ [(k : Int)] := by rw [List.take_add_one, hz.out]; rfl
            have hCn : endT (r : Int) ((SL.take (j + 1)).map (ltr (bts T))) = stp C T[k] := by rw [htk, end_map, hC.out, hly]
            have hCp : 0 ≤ stp C T[k] := by have := st.coin; rw [end_map, hC.out, hly] at this; exact this
            have hlk := hS.look keyInt Tryd.underlying53 Tryd.underlying4 (Tryd.zeroValue4 wa) (keyInt_of k (by omega))
            rw [hM.out, decide_eq_false st.new] at hlk
            obtain ⟨w10, hup, hS10, hg10⟩ := hS.put keyInt Tryd.underlying53 Tryd.underlying4 (by unfold maxLen; omega) (keyInt_of k (by omega))
            have hM10 := Lib.hid (show ∀ c : Int, (fun x => S x || x.sameKey (.int .i64 (k : Int))) (.int .i64 c) = decide (c ∈ SL.take (j + 1)) from fun c => by
              show (S (.int .i64 c) || decide (IntKind.i64 = IntKind.i64 ∧ c = (k : Int))) = _
              rw [hM.out, htk, Bool.eq_iff_iff, Bool.or_eq_true, decide_eq_true_iff, decide_eq_true_iff, decide_eq_true_iff, List.mem_append]
              simp)
            have hb10 := below_some hbe9 hg10 hbe9.size (by omega)
            have hB10 := hB.some_ hg10 hne24
            have q0 := hB10.cell 0
            have q1 := hB10.cell 1
            have f0 : w10.frozen? ⟨g24, 0, none⟩ = false := hB10.frozen 0
            have f1 : w10.frozen? ⟨g24, 1, none⟩ = false := hB10.frozen 1
            obtain ⟨S10, hS10e⟩ : ∃ s, (fun x => S x || x.sameKey (.int .i64 (k : Int))) = s := ⟨_, rfl⟩
            rw [hS10e] at hS10 hM10
            obtain ⟨m10, hm10⟩ : ∃ q, (if S (.int .i64 (k : Int)) then m else m + 1) = q := ⟨_, rfl⟩
            rw [hm10] at hS10
            have hlk2 := Lib.hid (fun (c : Nat) (hc : c ≤ 1000000) => hS10.look keyInt Tryd.underlying53 Tryd.underlying4 (Tryd.zeroValue4 w10) (keyInt_of c hc))
            obtain ⟨k1, hk1⟩ : ∃ k1 : Nat, (k : Int) + 1 = k1 := ⟨k + 1, by omega⟩
            obtain ⟨y1, hy1⟩ : ∃ y1 : ByteArray, T.extract k k1 = y1 := ⟨_, rfl⟩
            have hby : bts y1 = [T[k]] := by
              rw [← hy1, bts_extract, show k1 = k + 1 by omega, List.take_add_one, hat, Option.toList_some]
              exact List.drop_left' (by rw [List.length_take, bts_len]; omega)
            have hys : y1.size = 1 := by rw [← bts_len, hby]; rfl
            have hyi : (y1.size : Int) ≤ 16 := by omega
            have hti : (t.size : Int) ≤ 16 := by omega
            have hadd : ∀ w', (Op.stringOp .add t y1).run Tryd.prog w' = .ok (.string (t ++ y1)) w' := fun w' => run_string_add w' _ _ (by omega) (by omega)
            have hts1 : (t ++ y1 : ByteArray).size = j + 1 := by rw [← bts_len, bts_append, List.length_append, bts_len, bts_len, hts, hys]
            have ht1 := Lib.hid (show bts (t ++ y1) = (SL.take (j + 1)).map (ltr (bts T)) by
              rw [bts_append, ht.out, htk, List.map_append, hby, List.map_singleton, hly])
            have hk1T : (k1 : Int) ≤ T.size := by omega
            have hkk1 : (k : Int) ≤ k1 := by omega
            have hy1H := Lib.hid hy1
            have hmono := Lib.hid (fun (c : Nat) (h : (c : Int) ∈ SL.take j) => show (c : Int) ∈ SL.take (j + 1) by rw [htk]; simp [h])
            rcases okT_at hokH.out (List.mem_of_getElem? hat) with hy | hy
            · rw [hy] at hCn hCp hly
              have hst9 : stp C 99 = C + 1 := rfl
              rw [hst9] at hCn hCp
              have hCnH := Lib.hid hCn
              have hg1 : ((T[k].toNat : Int) == 110) = false := by rw [hy]; rfl
              have hka : ¬ (k : Int) < a0 := by
                rcases hL0.out with h | ⟨h1, h2⟩
                · omega
                · have := st.kind a0 h1 (by rw [h2, hly]); omega
              have hL0n := Lib.hid (show (k : Int) = -1 ∨ ((k : Int) ∈ SL.take (j + 1) ∧ ltr (bts T) k = 99) from Or.inr ⟨by rw [htk]; simp, hly⟩)
              have hL1n := Lib.hid (show a1 = -1 ∨ (a1 ∈ SL.take (j + 1) ∧ ltr (bts T) a1 = 110) from hL1.out.imp id (fun h => ⟨by rw [htk]; simp [h.1], h.2⟩))
              have hB11 := hB10.set_ 0 (.int .i64 (k : Int))
              have hb11 := hb10.setCell (p := ⟨g24, 0, none⟩) hg24 (.int .i64 (k : Int))
              have hS11 := hS10.kept (w' := w10.setCell ⟨g24, 0, none⟩ (.int .i64 (k : Int))) (row := some g24) ⟨rfl, rfl, rfl, by simp, fun i _ hi => Below.heap_setCell w10 _ _ i (fun e => hi (by rw [e]))⟩ (fun e => hne24 (by injection e with e; exact e.symm))
              have hcame := Lib.hid (fun c (hc : (c : Nat) < k) => st.came hly c (by omega))
              clear st hCn hst9 hat hy hby hly htk hy1 hS10e hm10
              go_wp2_with (fail)
              go_loopw [260] (fun v wr2 => ∃ c : Nat, c ≤ k ∧ v = .int .i64 c ∧ w10 = wr2) (fun v _ => k - (intOf v).toNat)
              case atStart => exact ⟨0, by omega, rfl, rfl⟩
              case round =>
                obtain ⟨c, hck, rfl, hw3⟩ := hrel
                subst hw3
                by_cases hlt3 : c < k
                · have hlti3 : (c : Int) < k := by omega
                  have hcT : c < T.size := by omega
                  have hlk3 := hlk2.out c (by omega)
                  rw [hM10.out] at hlk3
                  by_cases hin : (c : Int) ∈ SL.take (j + 1)
                  · rw [decide_eq_true hin] at hlk3
                    clear hin
                    go_wp2_with (fail)
                    go_roundw
                    case rel => exact ⟨c + 1, by omega, by go_num, by first | rfl | trivial⟩
                    case measure => simp only [intOf]; omega
                  · rw [decide_eq_false hin] at hlk3
                    rcases hcame.out c hlt3 with h | h
                    · exact absurd (hmono.out c h) hin
                    · have hgc : ((T[c].toNat : Int) == 99) = false := by
                        rw [ltr_at (bts_at T c hcT)] at h
                        rcases okT_at hokH.out (List.mem_of_getElem? (bts_at T c hcT)) with h9 | h9
                        · exact absurd h9 h.1
                        · rw [h9]; rfl
                      have hC0 : ¬ (0 : Int) < C := by rw [hC.out] at h; omega
                      clear hin h
                      go_wp2_with (fail)
                      go_roundw
                      case rel => exact ⟨c + 1, by omega, by go_num, by first | rfl | trivial⟩
                      case measure => simp only [intOf]; omega
                · have hlti3 : ¬ (c : Int) < k := by omega
                  obtain rfl : c = k := by omega
                  go_wp2_with (fail)
                  go_roundw
                  case rel => exact ⟨j + 1, t ++ y1, C + 1, (c : Nat), a1, nn + 1, m10, S10, by omega, by go_num, by rw [hy1H.out], hts1, ht1, by go_num, by omega, by omega, hCnH, by omega, hS11, hM10, hB11, hL0n, hL1n, hb11⟩
                  case measure => simp only [intOf]; omega
            · rw [hy] at hCn hCp hly
              have hst9 : stp C 110 = C - 1 := rfl
              rw [hst9] at hCn hCp
              have hCnH := Lib.hid hCn
              have hg1 : ((T[k].toNat : Int) == 110) = true := by rw [hy]; rfl
              have hka : ¬ (k : Int) < a1 := by
                rcases hL1.out with h | ⟨h1, h2⟩
                · omega
                · have := st.kind a1 h1 (by rw [h2, hly]); omega
              have hL0n := Lib.hid (show a0 = -1 ∨ (a0 ∈ SL.take (j + 1) ∧ ltr (bts T) a0 = 99) from hL0.out.imp id (fun h => ⟨by rw [htk]; simp [h.1], h.2⟩))
              have hL1n := Lib.hid (show (k : Int) = -1 ∨ ((k : Int) ∈ SL.take (j + 1) ∧ ltr (bts T) k = 110) from Or.inr ⟨by rw [htk]; simp, hly⟩)
              have hB11 := hB10.set_ 1 (.int .i64 (k : Int))
              have hb11 := hb10.setCell (p := ⟨g24, 1, none⟩) hg24 (.int .i64 (k : Int))
              have hS11 := hS10.kept (w' := w10.setCell ⟨g24, 1, none⟩ (.int .i64 (k : Int))) (row := some g24) ⟨rfl, rfl, rfl, by simp, fun i _ hi => Below.heap_setCell w10 _ _ i (fun e => hi (by rw [e]))⟩ (fun e => hne24 (by injection e with e; exact e.symm))
              have hnote := Lib.hid (fun c (hc : (c : Nat) < k) => st.note hly c (by omega))
              clear st hCn hst9 hat hy hby hly htk hy1 hS10e hm10
              go_wp2_with (fail)
              go_loopw [245] (fun v wr2 => ∃ c : Nat, c ≤ k ∧ v = .int .i64 c ∧ w10 = wr2) (fun v _ => k - (intOf v).toNat)
              case atStart => exact ⟨0, by omega, rfl, rfl⟩
              case round =>
                obtain ⟨c, hck, rfl, hw3⟩ := hrel
                subst hw3
                by_cases hlt3 : c < k
                · have hlti3 : (c : Int) < k := by omega
                  have hcT : c < T.size := by omega
                  have hlk3 := hlk2.out c (by omega)
                  rw [hM10.out] at hlk3
                  by_cases hin : (c : Int) ∈ SL.take (j + 1)
                  · rw [decide_eq_true hin] at hlk3
                    clear hin
                    go_wp2_with (fail)
                    go_roundw
                    case rel => exact ⟨c + 1, by omega, by go_num, by first | rfl | trivial⟩
                    case measure => simp only [intOf]; omega
                  · rw [decide_eq_false hin] at hlk3
                    rcases hnote.out c hlt3 with h | h
                    · exact absurd (hmono.out c h) hin
                    · have hgc : ((T[c].toNat : Int) == 99) = false := by
                        rw [ltr_at (bts_at T c hcT)] at h
                        rcases okT_at hokH.out (List.mem_of_getElem? (bts_at T c hcT)) with h9 | h9
                        · exact absurd h9 h
                        · rw [h9]; rfl
                      clear hin h
                      go_wp2_with (fail)
                      go_roundw
                      case rel => exact ⟨c + 1, by omega, by go_num, by first | rfl | trivial⟩
                      case measure => simp only [intOf]; omega
                · have hlti3 : ¬ (c : Int) < k := by omega
                  obtain rfl : c = k := by omega
                  go_wp2_with (fail)
                  go_roundw
                  case rel => exact ⟨j + 1, t ++ y1, C - 1, a0, (c : Nat), nn + 1, m10, S10, by omega, by go_num, by rw [hy1H.out], hts1, ht1, by go_num, by omega, by omega, hCnH, by omega, hS11, hM10, hB11, hL0n, hL1n, hb11⟩
                  case measure => simp only [intOf]; omega
          · have hlti : ¬ (j : Int) < T.size := by omega
            obtain rfl : j = T.size := by omega
            rw [List.take_of_length_le (by omega)] at ht hC
            have hall := Lib.hid (show lacksT ((SL).map (ltr (bts T))) r < 0 by
              rw [lacks_iff]
              intro z hz
              obtain ⟨i, hi, he⟩ := List.getElem_of_mem hz
              rw [steps_len, List.length_map] at hi
              have h1 := steps_get (SL.map (ltr (bts T))) r i (by rw [List.length_map]; exact hi)
              rw [List.getElem?_eq_getElem (by rw [steps_len, List.length_map]; exact hi), he] at h1
              injection h1 with h1
              rw [h1, ← List.map_take]
              have hs := (hstepH.out i SL[i] (List.getElem?_eq_getElem hi)).coin
              have e : SL.take (i + 1) = SL.take i ++ [SL[i]] := by rw [List.take_add_one, List.getElem?_eq_getElem hi]; rfl
              rw [e]
              exact hs)
            have cq := Lib.hid (fun w' => run_any t r (by omega) (by omega) w')
            rw [ht.out] at cq
            obtain ⟨Q1, hQ1⟩ : ∃ L, stepsT (r : Int) (SL.map (ltr (bts T))) = L := ⟨_, rfl⟩
            obtain ⟨q1, hq1⟩ : ∃ L, lacksT (SL.map (ltr (bts T))) (r : Int) = L := ⟨_, rfl⟩
            rw [hQ1, hq1] at cq
            have hq1n : q1 < 0 := by rw [← hq1]; exact hall.out
            have hbe := hb5.trans (hbe9.mono hb5.size)
            clear hQ1 hq1
            by_cases hMn : M1 < 0
            · go_wp2_with (first
                | (go_at_call 42; (with_reducible refine (cq.out _).mono ?_); rintro e w11 ⟨v31, rfl, ho31, hb31⟩
                   have hb12 := hbe9.trans (hb31.mono hbe9.size)
                   clear ho31)
                | (go_at_call 42; (with_reducible refine (c3.out _).mono ?_); rintro e w12 ⟨v33, rfl, ho33, hb33⟩
                   have hb13 := hb12.trans (hb33.mono hb12.size)
                   clear ho33))
              go_loopw [316] (fun v wr2 => ∃ i : Nat, i ≤ T.size ∧ v = .int .i64 i ∧ w12 = wr2) (fun v _ => T.size - (intOf v).toNat)
              case atStart => exact ⟨0, by omega, rfl, rfl⟩
              case round =>
                obtain ⟨i, hi, rfl, hw3⟩ := hrel
                subst hw3
                by_cases hlt4 : i < T.size
                · have hlti4 : (i : Int) < T.size := by omega
                  obtain ⟨ad, z, rfl, _, hcell, hz⟩ := (hr18.below hb13).at_ hlt4
                  obtain rfl := hidH.out hMn i z hz.out
                  go_wp2_with (fail)
                  go_roundw
                  case rel => exact ⟨i + 1, by omega, by go_num, by first | rfl | trivial⟩
                  case measure => simp only [intOf]; omega
                · have hlti4 : ¬ (i : Int) < T.size := by omega
                  have hbf := hb5.trans (hb13.mono hb5.size)
                  go_wp2_with (first
                    | (go_at_call 13; (with_reducible refine (works_any _).mono ?_); rintro e w14 ⟨rfl, hb14⟩; replace hbf := hbf.trans (hb14.mono hbf.size)))
                  go_ret
                  exact ⟨rfl, hbf⟩
            · have hMd : decide (M1 < 0) = false := decide_eq_false hMn
              go_wp2_with (first
                | (go_at_call 42; (with_reducible refine (cq.out _).mono ?_); rintro e w11 ⟨v31, rfl, ho31, hb31⟩
                   have hb12 := hbe.trans (hb31.mono hbe.size)
                   clear ho31)
                | (go_at_call 42; (with_reducible refine (c3.out _).mono ?_); rintro e w12 ⟨v33, rfl, ho33, hb33⟩
                   have hb13 := hb12.trans (hb33.mono hb12.size)
                   clear ho33)
                | (go_at_call 13; (with_reducible refine (works_any _).mono ?_); rintro e w14 ⟨rfl, hb14⟩; replace hb13 := hb13.trans (hb14.mono hb13.size)))
              go_ret
              exact ⟨rfl, hb13⟩
    · obtain ⟨hSL, hE⟩ := ser_none hopH.out hle
      have hend : ¬ 0 ≤ endT r (bts T) := fun h => hle ((ser_le hokH.out).2 h)
      rw [hSL, hE] at c2
      obtain ⟨FL, hFL⟩ : ∃ L, stepsT (r : Int) (bts T) = L := ⟨_, rfl⟩
      obtain ⟨M1, hM1⟩ : ∃ L, lacksT (bts T) (r : Int) = L := ⟨_, rfl⟩
      have hFl : FL.length = T.size := by rw [← hFL, steps_len, bts_len]
      have hne : T.size ≠ 0 := fun h => by
        have hnil : bts T = [] := List.eq_nil_of_length_eq_zero (by rw [bts_len]; exact h)
        rw [hnil] at hend
        exact hend (show (0 : Int) ≤ r by omega)
      obtain ⟨j, hj⟩ : ∃ j, T.size = j + 1 := ⟨T.size - 1, by omega⟩
      have hFe := Lib.hid (show FL[j]? = some (endT r (bts T)) by
        rw [← hFL, steps_get _ _ _ (by rw [bts_len]; omega), show j + 1 = (bts T).length by rw [bts_len]; omega, List.take_length])
      rw [hFL, hM1] at c3
      obtain ⟨E1, hE1⟩ : ∃ e, endT (r : Int) (bts T) = e := ⟨_, rfl⟩
      rw [hE1] at hend hFe
      have hn1 : E1 < 0 := by omega
      have hz1 : (0 : Int) < T.size := by omega
      have hji : (T.size : Int) - 1 = j := by omega
      have hjl : (j : Int) < T.size := by omega
      have hjl2 : j < T.size := by omega
      clear hSL hE hFL hM1 hE1 hne hj hle hend
      go_wp2_with (first
        | (go_at_call 37; (with_reducible refine (c2.out _).mono ?_); rintro e w5 ⟨v18, rfl, ho18, hb5'⟩
           have hb5 := hbe.trans (hb5'.mono hbe.size)
           obtain ⟨A18, n18, hv18, _⟩ := ho18.reads
           rw [List.length_nil] at hv18
           subst hv18
           clear hb5' ho18)
        | (go_at_call 42; (with_reducible refine (c3.out _).mono ?_); rintro e w6 ⟨v20, rfl, ho20, hb6⟩
           obtain ⟨A20, n20, hv20, hr20⟩ := ho20.reads
           rw [hFl] at hv20 hr20
           subst hv20
           obtain ⟨ad, z, rfl, _, hcell, hzz⟩ := hr20.at_ hjl2
           obtain rfl : z = E1 := by
             have := hzz.out
             rw [hFe.out] at this
             injection this with this
             exact this.symm
           have hb7 := hb5.trans (hb6.mono hb5.size)
           clear ho20)
        | (go_at_call 13; (with_reducible refine (works_any _).mono ?_); rintro e w14 ⟨rfl, hb14⟩; replace hb7 := hb7.trans (hb14.mono hb7.size)))
      go_ret
      exact ⟨rfl, hb7⟩
end Go.Proofs.YtfcfhiekkpflcaaDoor
