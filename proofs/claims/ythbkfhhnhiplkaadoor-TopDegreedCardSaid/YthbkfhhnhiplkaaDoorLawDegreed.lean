/- The law's TopDegreed. -/
import Derived.Test.YthbkfhhnhiplkaaDoorTwC
import Derived.Test.YthbkfhhnhiplkaaDoorDegP
namespace Go.Proofs.YthbkfhhnhiplkaaDoor
open Go.RowKit
namespace Dg
open Bu (natI natI_at)
theorem zero_eight (w : World) : (zeroValue 28).run Tryd.prog w = .ok (.agg (intArr (natI (List.replicate 8 0)))) w := by kernel_rfl
theorem fac_small {o i : Nat} (hi : i ≤ 8) (h : o ≤ 9 ^ (i - 2)) (h2 : 2 ≤ i) : o * i ≤ 9 ^ (i + 1 - 2) := by
  rw [show i + 1 - 2 = (i - 2) + 1 by omega, Nat.pow_succ]
  exact Nat.mul_le_mul h (by omega)
theorem nine_le {i : Nat} (hi : i ≤ 9) : 9 ^ (i - 2) ≤ 4782969 := Nat.le_trans (Nat.pow_le_pow_right (by omega) (show i - 2 ≤ 7 by omega)) (by decide)
set_option maxRecDepth 100000 in
set_option maxHeartbeats 4000000 in
theorem degreed_law (x0 : Int) (hx0 : 0 ≤ x0 ∧ x0 ≤ 255) (w : World) (hT : Cl.Tab w) : Calls Tryd.prog 3 #[.int .u8 x0] w fun e w' => e = .returned (.bool true) ∧ Below w.heap.size w w' := by
  obtain ⟨r, hr⟩ : ∃ n : Nat, x0 % 7 = n := ⟨(x0 % 7).toNat, by omega⟩
  have hr1 : Int.tmod x0 7 = r := by rw [Int.tmod_eq_emod_of_nonneg (by omega)]; exact hr
  have hr6 : r ≤ 6 := by omega
  obtain ⟨n, hn⟩ : ∃ n, 2 + r = n := ⟨_, rfl⟩
  have hni : (2 : Int) + r = n := by omega
  have h2 : 2 ≤ n := by omega
  have h8 : n ≤ 8 := by omega
  clear hr hn
  have hAll := Lib.hid (all_of h2 h8)
  have hlo := hAll.out.lo
  have hhi := hAll.out.hi
  have hone := Lib.hid hAll.out.one
  have htot := hAll.out.tot
  obtain ⟨m, hm⟩ : ∃ m, n - 2 = m := ⟨_, rfl⟩
  have hmi : (n : Int) - 2 = m := by omega
  have cB := Lib.hid (fun w' => Bu.Count_in m (by omega) w')
  have cR := Lib.hid (fun w' => Br.Count_ok n h2 (by omega) w')
  rw [← htot] at cR
  rw [hm] at hlo hhi hone htot cR
  obtain ⟨D, hD⟩ : ∃ D, pV m m = D := ⟨_, rfl⟩
  have hDH := Lib.hid hD
  rw [hD] at hlo hhi hone htot cR cB
  obtain ⟨TOT, hTOT⟩ : ∃ x, sumN n D = x := ⟨_, rfl⟩
  rw [hTOT] at cR
  have hTOTH := Lib.hid hTOT
  have hmk := run_make_row' (P := Tryd.prog) 25 3 (.int .i64 0) 8 Tryd.underlying25 infoInt rfl .i64 .i64 n (by omega) (by omega)
  have hmH := Lib.hid hm
  have hlo1 : ¬ (D : Int) < 1 := by omega
  have hhi1 : ¬ (11 : Int) < D := by omega
  have hTabH := Lib.hid hT
  clear hm hD hTOT htot hT
  go_enter Tryd.func3, Tryd.ntmps3
  go_wp2_with (first
    | (go_at_call 5; (with_reducible refine (cB.out _).mono ?_); rintro e w1 ⟨rfl, hb1⟩)
    | (go_at_call 6; (with_reducible refine (cR.out _).mono ?_); rintro e wz ⟨rfl, hwz⟩; replace hwz := hwz.symm; subst hwz))
  go_loopw [8, 52] (fun s v wr => ∃ k y : Nat, k ≤ D ∧ v = .int .i64 k ∧ s = .int .i64 y ∧ Hid (sumN n k = y) ∧ Below w.heap.size w wr) (fun _ v _ => D - (intOf v).toNat)
  case atStart => exact ⟨0, 0, by omega, rfl, rfl, Lib.hid rfl, hb1⟩
  case round =>
    clear hb1
    obtain ⟨k, y, hk, rfl, rfl, hy, hb⟩ := hrel
    obtain ⟨wa, rfl⟩ : ∃ x, x = wr := ⟨wr, rfl⟩
    by_cases hlt : k < D
    · have hlti : (k : Int) < D := by omega
      have hOne := Lib.hid (hone.out k hlt)
      have hyb : y ≤ 1000000 := by rw [← hy.out]; exact hOne.out.sv
      have hnth : nthF m m k = divL n k := by unfold divL; rw [hmH.out]
      have cN := Lib.hid (fun w' => Bu.Nth_ok m k (by omega) (by rw [hDH.out]; exact hlt) w')
      rw [hnth] at cN
      have hsum : sumN n (k + 1) = sumN n k + termN n k := rfl
      rw [hy.out] at hsum
      unfold termN at hsum
      have hlen := hOne.out.len
      have hsm := Lib.hid hOne.out.sm
      have hdg := Lib.hid hOne.out.dg
      have hwv := hOne.out.wv
      have hov := hOne.out.ov
      rw [hmH.out] at hlen
      obtain ⟨L, hL⟩ : ∃ L, divL n k = L := ⟨_, rfl⟩
      rw [hL] at cN hsum hlen hsm hdg hwv hov
      obtain ⟨q, hq⟩ : ∃ q, L.length = q := ⟨_, rfl⟩
      have hqH := Lib.hid hq
      rw [hq] at cN hlen
      obtain ⟨WV, hWV⟩ : ∃ x, Br.withV (degs n L) = x := ⟨_, rfl⟩
      obtain ⟨OV, hOV⟩ : ∃ x, ordN n L = x := ⟨_, rfl⟩
      rw [hWV] at hsum hwv
      rw [hOV] at hsum hov
      have hWVH := Lib.hid hWV
      have hOVH := Lib.hid hOV
      have hsumH := Lib.hid hsum
      have hlq : ¬ (m : Int) < q := by omega
      have hlqn : decide (m < q) = false := decide_eq_false (by omega)
      clear hnth hsum hL hq hWV hOV
      go_wp2_with (first
        | (go_at_call 7; (with_reducible refine (cN.out _).mono ?_); rintro e w2 ⟨⟨A, c, rfl, hr2⟩, hb2⟩
           have hbe2 := hb.trans (hb2.mono hb.size)
           clear hb2 hb)
        | (with_reducible show wpList _ _ _ (⟨_, .alloc 28, _, _, _, _⟩ :: _) _ _
           refine wpList_alloc_blk rfl 28 rfl _ zero_eight ?_
           intro w4 gO hO4 hgr4 hge4))
      have hD3 := Blk.new w2 3 (madeCells #[.int .i64 0] n)
      have hD4 := hD3.none_ hgr4
      rw [intArr_made] at hD4
      have hbb := (Below.refl w2.heap.size w2).alloc (Nat.le_refl _) (.cells (madeCells #[.int .i64 0] n) 3)
      have hbb4 := below_none hbb hgr4 hbb.size
      have hr4 := hr2.below hbb4
      have hbe4 := hbe2.trans (hbb4.mono hbe2.size)
      have hgD := hbe2.size
      have hneDO : w2.heap.size ≠ gO := by
        have h3 : (w2.alloc (.cells (madeCells #[.int .i64 0] n) 3)).heap.size = w2.heap.size + 1 := by show (w2.heap.push _).size = _; simp
        omega
      have hgO : w2.heap.size ≤ gO := Nat.le_trans hbb.size hge4
      clear hD3 hbb hbb4 hbe2 hr2 hgr4 hge4 cN
      generalize w2.heap.size = gD at *
      obtain ⟨DG, hDG⟩ : ∃ x, natI (degs n L) = x := ⟨_, rfl⟩
      have hDGl : DG.length = n := by rw [← hDG]; simp [natI, deg_len]
      have hDGa := Lib.hid (fun i (h : i < n) => (show DG[i]? = some ((L.getD i 0 + 1 : Nat) : Int) by rw [← hDG, natI, List.getElem?_map, deg_at h]; rfl))
      have hDGH := Lib.hid hDG
      have hb0 := Below.refl gD w4
      have hD5 : Blk w4 gD 3 (intArr (fillI n DG 0)) := by rw [fillI_zero]; exact hD4
      have hO5 : Blk w4 gO 28 (intArr (natI (oftG L 0))) := hO4
      clear hD4 hO4 hDG
      go_loopw [75] (fun v wr => ∃ i : Nat, i ≤ n ∧ v = .int .i64 i ∧ Blk wr gD 3 (intArr (fillI n DG i)) ∧ Blk wr gO 28 (intArr (natI (oftG L i))) ∧ Below gD w4 wr) (fun v _ => n - (intOf v).toNat)
      case atStart => exact ⟨0, by omega, rfl, hD5, hO5, hb0⟩
      case round =>
        clear hD5 hO5 hb0
        obtain ⟨i, hi, rfl, hDB, hOB, hbD⟩ := hrel
        obtain ⟨wb, rfl⟩ : ∃ x, x = wr := ⟨wr, rfl⟩
        by_cases hlt2 : i < n
        · have hlti2 : (i : Int) < n := by omega
          have hi0 : (0 : Int) ≤ i := by omega
          have hcD : wb.cell? ⟨gD, i, none⟩ = some (.int .i64 0) := by rw [hDB.cell, intArr_at, fillI_at hDGl hlt2]; rfl
          have hfD := hDB.frozen i
          have hx7 := hsm.out i
          have hol : (oftG L i).length = 8 := oft_len L i
          obtain ⟨x, hx⟩ : ∃ x, L.getD i 0 = x := ⟨_, rfl⟩
          rw [hx] at hx7
          obtain ⟨c0, hc0⟩ : ∃ c, (oftG L i).getD x 0 = c := ⟨_, rfl⟩
          have hat : (oftG L i)[x]? = some c0 := by rw [← hc0, List.getD_eq_getElem?_getD, List.getElem?_eq_getElem (by omega)]; rfl
          have hc8 : c0 ≤ 8 := by have := oft_le L i c0 (List.mem_of_getElem? hat); omega
          have hcO : wb.cell? ⟨gO, x, none⟩ = some (.int .i64 (c0 : Int)) := by rw [hOB.cell, intArr_at, natI, List.getElem?_map, hat]; rfl
          have hfO := hOB.frozen x
          have hDs := hDB.set_ i (.int .i64 ((x : Int) + 1))
          have hdg1 := hDGa.out i hlt2
          rw [hx] at hdg1
          rw [intArr_set, fillI_set hDGl (by rw [hdg1, Int.natCast_add]; rfl)] at hDs
          have hDs2 := hDs.far (p := ⟨gO, x, none⟩) hneDO (.int .i64 ((c0 : Int) + 1))
          have hOs := hOB.far (p := ⟨gD, i, none⟩) (Ne.symm hneDO) (.int .i64 ((x : Int) + 1))
          have hcO2 := (hOs.cell x).trans ((hOB.cell x).symm.trans hcO)
          have hfO2 := hOs.frozen x
          have hOs2 := hOs.set_ x (.int .i64 ((c0 : Int) + 1))
          have hnat : (natI (oftG L i)).set x ((c0 : Int) + 1) = natI (oftG L (i + 1)) := by
            rw [oftG, hx, hc0]
            simp [natI, List.map_set]
          rw [intArr_set, hnat] at hOs2
          have hbs := (hbD.setCell (p := ⟨gD, i, none⟩) (Nat.le_refl _) (.int .i64 ((x : Int) + 1))).setCell (p := ⟨gO, x, none⟩) hgO (.int .i64 ((c0 : Int) + 1))
          have hDs2H := Lib.hid hDs2
          have hOs2H := Lib.hid hOs2
          have hbsH := Lib.hid hbs
          have hx8 : (x : Int) < 8 := by omega
          have hxl : ¬ (x : Int) < 0 := by omega
          have hxh : ¬ (7 : Int) < x := by omega
          clear hDs hDs2 hOs hOs2 hbs hnat hdg1 hat hc0 hDB hOB
          by_cases hiq : i < q
          · have hiqi : (i : Int) < q := by omega
            obtain ⟨ad, z, rfl, _, hcell, hz⟩ := (hr4.below hbD).at_ hiq
            obtain ⟨x', hx', rfl⟩ := natI_at hz.out
            obtain rfl : x = x' := by rw [← hx, List.getD_eq_getElem?_getD, hx']; rfl
            clear hz hx' hx
            go_wp2_with (fail)
            go_roundw
            case rel => exact ⟨i + 1, by omega, by go_num, hDs2H.out, hOs2H.out, hbsH.out⟩
            case measure => simp only [intOf]; omega
          · have hiqi : ¬ (i : Int) < q := by omega
            have hiqn : decide (i < q) = false := decide_eq_false hiq
            obtain rfl : x = 0 := by rw [← hx, List.getD_eq_getElem?_getD, List.getElem?_eq_none (by rw [hqH.out]; omega)]; rfl
            clear hx
            rw [Int.natCast_zero] at hcO2 hDs2H hOs2H hbsH hx8 hxl hxh
            go_wp2_with (fail)
            go_roundw
            case rel => exact ⟨i + 1, by omega, by go_num, hDs2H.out, hOs2H.out, hbsH.out⟩
            case measure => simp only [intOf]; omega
        · have hlti2 : ¬ (i : Int) < n := by omega
          obtain rfl : i = n := by omega
          rw [fillI_end hDGl] at hDB
          have hbe5 := hbe4.trans (hbD.mono hgD)
          have hrW : RInts wb wb.heap.size (some ⟨gD, 0, none⟩) i (natI (degs i L)) := by rw [hDGH.out]; exact RInts.of_blk hDB hDGl
          have cW := Lib.hid (Br.With_ok gD i i (degs i L) hdg.out wb wb.heap.size hrW)
          rw [hWVH.out] at cW
          have hol : (oftG L i).length = 8 := oft_len L i
          have hoi := oft_le L i
          have hOVe := hOVH.out
          unfold ordN at hOVe
          obtain ⟨OF, hOF⟩ : ∃ x, oftG L i = x := ⟨_, rfl⟩
          rw [hOF] at hol hoi hOVe hOB
          obtain ⟨FC, hFC⟩ : ∃ x, facU (i - 1) 2 1 = x := ⟨_, rfl⟩
          rw [hFC] at hOVe
          have hFCH := Lib.hid hFC
          have hOVeH := Lib.hid hOVe
          have hoiH := Lib.hid hoi
          have hone9 : (1 : Nat) ≤ 9 ^ (2 - 2) := by decide
          obtain ⟨CS, hCS⟩ : ∃ x, intArr (natI OF) = x := ⟨_, rfl⟩
          rw [hCS] at hOB
          have hCSz : CS.size = 8 := by rw [← hCS]; simp [intArr, ints, natI, hol]
          have hinf : (Tryd.prog.info? 28).map (·.size) = some CS.size := by rw [hCSz]; kernel_rfl
          have hCSH := Lib.hid hCS
          clear hOF hFC hOVe hDB hbD hrW hCS hoi hDGl
          go_wp2_with (fail)
          go_loopw [16, 17] (fun o v wr => ∃ j u z : Nat, 2 ≤ j ∧ j + u = i + 1 ∧ v = .int .i64 j ∧ o = .int .i64 z ∧ Hid (z ≤ 9 ^ (j - 2)) ∧ Hid (facU u j z = FC) ∧ wb = wr) (fun _ v _ => i + 1 - (intOf v).toNat)
          case atStart => exact ⟨2, i - 1, 1, by omega, by omega, rfl, rfl, hone9, hFCH, rfl⟩
          case round =>
            obtain ⟨j, u, z, h2j, hju, rfl, rfl, hz9, hF, hw⟩ := hrel
            subst hw
            by_cases hlt3 : j ≤ i
            · have hlti3 : (j : Int) ≤ i := by omega
              obtain ⟨u1, rfl⟩ : ∃ u1, u = u1 + 1 := ⟨u - 1, by omega⟩
              have hz10 := Nat.le_trans hz9.out (nine_le (by omega))
              obtain ⟨z2, hz2⟩ : ∃ z2, z * j = z2 := ⟨_, rfl⟩
              have hzi : (z : Int) * (j : Int) = z2 := by rw [← hz2]; simp
              have hz3 := Lib.hid (show z2 ≤ 9 ^ (j + 1 - 2) by rw [← hz2]; exact fac_small (by omega) hz9.out h2j)
              have hz4 := Nat.le_trans hz3.out (nine_le (i := j + 1) (by omega))
              have hF2 := Lib.hid (show facU u1 (j + 1) z2 = FC by rw [← hF.out, ← hz2]; rfl)
              clear hz2
              go_wp2_with (fail)
              go_roundw
              case rel => exact ⟨j + 1, u1, z2, by omega, by omega, by go_num, rfl, hz3, hF2, by first | rfl | trivial⟩
              case measure => simp only [intOf]; omega
            · have hlti3 : ¬ (j : Int) ≤ i := by omega
              have hz10 := Nat.le_trans hz9.out (nine_le (by omega))
              have hzF : z = FC := by
                have h3 := hF.out
                rwa [show u = 0 by omega, facU] at h3
              subst hzF
              have hA0 := Lib.hid (show divA (OF.drop 0) z = OV by rw [List.drop_zero]; exact hOVeH.out)
              clear hz9 hF
              go_wp2_with (first
                | (with_reducible show wpList _ _ _ (⟨_, .load 28 (.tmp 13), _, _, _, _⟩ :: _) _ _
                   refine wpList_load_blk rfl 28 _ rfl gO rfl 28 CS _ hOB Tryd.underlying28 rfl hinf ?_))
              go_loopw [16, 112] (fun o v wr => ∃ t y2 : Nat, t ≤ 8 ∧ v = .int .i64 t ∧ o = .int .i64 y2 ∧ y2 ≤ 4782969 ∧ Hid (divA (OF.drop t) y2 = OV) ∧ wb = wr) (fun _ v _ => 8 - (intOf v).toNat)
              case atStart => exact ⟨0, z, by omega, rfl, rfl, hz10, hA0, rfl⟩
              case round =>
                clear hA0 hz10
                obtain ⟨t, y2, ht, rfl, rfl, hy2, hA, hw⟩ := hrel
                subst hw
                by_cases hlt4 : t < 8
                · have hlti4 : (t : Int) < 8 := by omega
                  have ht0 : (0 : Int) ≤ t := by omega
                  obtain ⟨mt, hmt⟩ : ∃ x, OF[t]? = some x := ⟨_, List.getElem?_eq_getElem (by omega)⟩
                  have hmt8 : mt ≤ 8 := by have := hoiH.out mt (List.mem_of_getElem? hmt); omega
                  have hct : CS[t]? = some (.int .i64 (mt : Int)) := by rw [← hCSH.out, intArr_at, natI, List.getElem?_map, hmt]; rfl
                  have hidx := run_index_cells (P := Tryd.prog) CS .i64 t (.int .i64 (mt : Int)) Tryd.underlying28 Tryd.underlying3 rfl (by kernel_rfl) hlt4 hct
                  have hA1 := hA.out
                  rw [divA_at hmt] at hA1
                  obtain ⟨Q1, hQ1⟩ : ∃ x, divU (mt - 1) 2 y2 = x := ⟨_, rfl⟩
                  rw [hQ1] at hA1
                  have hA1H := Lib.hid hA1
                  have hQ1H := Lib.hid hQ1
                  clear hmt hA1 hQ1
                  go_wp2_with (fail)
                  go_loopw [16, 20] (fun o v wr => ∃ j2 u2 y3 : Nat, 2 ≤ j2 ∧ u2 = mt + 1 - j2 ∧ v = .int .i64 j2 ∧ o = .int .i64 y3 ∧ y3 ≤ 4782969 ∧ Hid (divU u2 j2 y3 = Q1) ∧ wb = wr) (fun _ v _ => 10 - (intOf v).toNat)
                  case atStart => exact ⟨2, mt - 1, y2, by omega, by omega, rfl, rfl, hy2, hQ1H, rfl⟩
                  case round =>
                    obtain ⟨j2, u2, y3, h2j2, hu2, rfl, rfl, hy3, hQ, hw⟩ := hrel
                    subst hw
                    by_cases hlt5 : j2 ≤ mt
                    · have hlti5 : (j2 : Int) ≤ mt := by omega
                      obtain ⟨u3, rfl⟩ : ∃ u3, u2 = u3 + 1 := ⟨u2 - 1, by omega⟩
                      obtain ⟨y4, hy4⟩ : ∃ y4, y3 / j2 = y4 := ⟨_, rfl⟩
                      have htd : Int.tdiv (y3 : Int) (j2 : Int) = y4 := by rw [← hy4]; rfl
                      have hy4b : y4 ≤ 4782969 := by rw [← hy4]; exact Nat.le_trans (Nat.div_le_self _ _) hy3
                      have hj0 : ((j2 : Int) == 0) = false := by simp; omega
                      have hjn : (j2 : Int) ≠ 0 := by omega
                      have hQ2 := Lib.hid (show divU u3 (j2 + 1) y4 = Q1 by rw [← hQ.out, ← hy4]; rfl)
                      clear hy4
                      go_wp2_with (fail)
                      go_roundw
                      case rel => exact ⟨j2 + 1, u3, y4, by omega, by omega, by go_num, rfl, hy4b, hQ2, by first | rfl | trivial⟩
                      case measure => simp only [intOf]; omega
                    · have hlti5 : ¬ (j2 : Int) ≤ mt := by omega
                      have hyQ : y3 = Q1 := by
                        have h3 := hQ.out
                        rwa [show u2 = 0 by omega, divU] at h3
                      subst hyQ
                      clear hu2
                      go_wp2_with (fail)
                      go_roundw
                      case rel => exact ⟨t + 1, y3, by omega, by go_num, rfl, hy3, hA1H, by first | rfl | trivial⟩
                      case measure => simp only [intOf]; omega
                · have hlti4 : ¬ (t : Int) < 8 := by omega
                  have hyO : y2 = OV := by
                    have h3 := hA.out
                    rwa [List.drop_of_length_le (by omega), divA] at h3
                  subst hyO
                  obtain ⟨P, hP⟩ : ∃ P, WV * y2 = P := ⟨_, rfl⟩
                  have hPi : (WV : Int) * (y2 : Int) = P := by rw [← hP]; simp
                  have hPb : P ≤ 10000000000 := by
                    rw [← hP]
                    exact Nat.mul_le_mul hwv hov
                  have hsN := Lib.hid (show sumN i (k + 1) = y + P by rw [hsumH.out, hP])
                  clear hP hA
                  go_wp2_with (first
                    | (go_at_call 8; (with_reducible refine cW.out.mono ?_); rintro e wz ⟨rfl, hwz⟩; replace hwz := hwz.symm; subst hwz))
                  go_roundw
                  case rel => exact ⟨k + 1, y + P, by omega, by go_num, by go_num, hsN, hbe5⟩
                  case measure => simp only [intOf]; omega
    · have hlti : ¬ (k : Int) < D := by omega
      obtain rfl : k = D := by omega
      have hyT : y = TOT := by rw [← hy.out, hTOTH.out]
      subst hyT
      clear hy
      go_wp2_with (first
        | (go_at_call 9; (with_reducible refine (Tw.branchWorks_any _ (hTabH.out.later hb)).mono ?_); rintro e w9 ⟨rfl, hb9⟩
           have hb10 := hb.trans (hb9.mono hb.size)))
      go_ret
      exact ⟨rfl, hb10⟩
end Dg
end Go.Proofs.YthbkfhhnhiplkaaDoor
