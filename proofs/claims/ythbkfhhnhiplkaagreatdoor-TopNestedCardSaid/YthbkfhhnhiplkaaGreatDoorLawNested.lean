/- The law's TopNested. -/
import Derived.Test.YthbkfhhnhiplkaaGreatDoorNesW
namespace Go.Proofs.YthbkfhhnhiplkaaGreatDoor
open Go.RowKit
namespace Ns
open Bu (natI natI_at)
set_option maxRecDepth 100000 in
set_option maxHeartbeats 4000000 in
theorem nested_law (x0 x1 : Int) (hx0 : 0 ≤ x0 ∧ x0 ≤ 255) (hx1 : 0 ≤ x1 ∧ x1 ≤ 65535) (w : World) (hT : Cl.Tab w) : Calls Tryz.prog 3 #[.int .u8 x0, .int .u16 x1] w fun e w' => e = .returned (.bool true) ∧ Below w.heap.size w w' := by
  obtain ⟨n, hn⟩ : ∃ n : Nat, x0 % 9 = n := ⟨(x0 % 9).toNat, by omega⟩
  have hr1 : Int.tmod x0 9 = n := by rw [Int.tmod_eq_emod_of_nonneg (by omega)]; exact hn
  have hn8 : n ≤ 8 := by omega
  obtain ⟨q1, q2, q3, q4⟩ := cnt_all n (by omega)
  obtain ⟨M, hM⟩ : ∃ M, nestN n = M := ⟨_, rfl⟩
  rw [hM] at q2 q3 q4
  obtain ⟨k, hk⟩ : ∃ k : Nat, x1 % M = k := ⟨(x1 % M).toNat, by have := Int.emod_nonneg x1 (show (M : Int) ≠ 0 by omega); omega⟩
  have hr2 : Int.tmod x1 M = k := by rw [Int.tmod_eq_emod_of_nonneg (by omega)]; exact hk
  have hkM : k < M := by have := Int.emod_lt_of_pos x1 (show (0 : Int) < M by omega); omega
  have hP := nestP_of hn8 (nest_any n k hn8 (by rw [hM]; exact hkM))
  have hPH := Lib.hid hP
  have hMz : ((M : Int) == 0) = false := by simp; omega
  have hM1 : ¬ (M : Int) < 1 := by omega
  have hM2 : ¬ (1430 : Int) < M := by omega
  have cC := Lib.hid (fun w' => Ti.Count_any n n 0 w')
  rw [q1, q2] at cC
  have cA := Lib.hid (fun w' => Ti.At_any n n 0 k w')
  rw [hP.ae] at cA
  obtain ⟨S, hS⟩ : ∃ S : ByteArray, ⟨(Ti.atV n n 0 k).toArray⟩ = S := ⟨_, rfl⟩
  rw [hS] at cA
  have hSb : Ti.bts S = ordW n k := by rw [← hS]; rfl
  have hlen := hP.len
  have hcl := hP.cl
  have hbl := hP.bl
  have cI := Lib.hid (fun w' => Ti.Coins_any S 0 w')
  have cP := Lib.hid (fun w' => Ti.Pairs_any S w')
  rw [hSb, hP.ce] at cI
  rw [hSb, hP.pe] at cP
  obtain ⟨L, hL⟩ : ∃ L, ordW n k = L := ⟨_, rfl⟩
  obtain ⟨CL, hCL⟩ : ∃ x, Ti.coinL L 0 = x := ⟨_, rfl⟩
  obtain ⟨PL, hPL⟩ : ∃ x, Ti.pairL L = x := ⟨_, rfl⟩
  rw [hL, hCL] at cI hcl
  rw [hL, hPL] at cP hbl
  rw [hL] at hSb hlen
  obtain ⟨m, hm⟩ : ∃ m, 2 * n = m := ⟨_, rfl⟩
  rw [hm] at hlen hcl
  have hSm : S.size = m := by rw [← hlen, ← hSb]; simp [Ti.bts]
  have h2n : (2 : Int) * (n : Int) = m := by omega
  have hm16 : m ≤ 16 := by omega
  have hLH := Lib.hid hL
  have hCLH := Lib.hid hCL
  have hPLH := Lib.hid hPL
  have hSbH := Lib.hid hSb
  have hTH := Lib.hid hT
  have hSmH := Lib.hid hSm
  have hlenH := Lib.hid hlen
  have hclH := Lib.hid hcl
  have hblH := Lib.hid hbl
  have hmk := run_make_row' (P := Tryz.prog) 28 3 (.int .i64 0) 8 Tryz.underlying28 infoInt rfl .i64 .i64 m (by omega) (by omega)
  clear hP hn hk hS hL hCL hPL hSb hT hM q1 q2 hlen hcl hbl hm
  go_enter Tryz.func3, Tryz.ntmps3
  go_wp2_with (first
    | (go_at_call 5; (with_reducible refine (cC.out _).mono ?_); rintro e wz ⟨rfl, hwz⟩; replace hwz := hwz.symm; subst hwz)
    | (go_at_call 6; (with_reducible refine (cA.out _).mono ?_); rintro e w1 ⟨rfl, hb1⟩)
    | (go_at_call 7; (with_reducible refine (cI.out _).mono ?_); rintro e w2 ⟨vC, rfl, hoC, hb2⟩
       have hbe2 := hb1.trans (hb2.mono hb1.size)
       obtain ⟨AC, cC2, rfl, hrC, hfC⟩ := own_form hoC
       rw [hclH.out] at hrC hfC ⊢
       clear hoC hb1 hb2)
    | (go_at_call 8; (with_reducible refine (cP.out _).mono ?_); rintro e w3 ⟨vB, rfl, hoB, hb3⟩
       have hbe3 := hbe2.trans (hb3.mono hbe2.size)
       obtain ⟨AB, cB2, rfl, hcB, hrB⟩ := own_ties hoB
       have hrC3 := (hrC.below hb3).more hb3.size
       rw [hblH.out] at hcB ⊢
       clear hoB hb3 hbe2 hrC)
    | (with_reducible show wpList _ _ _ (⟨_, .alloc 35, _, _, _, _⟩ :: _) _ _
       refine wpList_alloc_blk rfl 35 rfl _ zero_tree ?_
       intro w4 gT hG4 hgr4 hge4
       have hb4 := below_none (Below.refl w3.heap.size w3) hgr4 (Nat.le_refl _))
    | (with_reducible show wpList _ _ _ (⟨_, .store 35 _ _, _, _, _, _⟩ :: _) _ _
       refine wpList_store_blk rfl 35 _ _ rfl gT #[.int .i64 1, .slice none 0 0] rfl rfl 35 _ hG4 info_tree rfl (by simp [Value.oneCell']) ?_
       intro w5 hG5 hgr5
       have hb5 := below_some hb4 hgr5 hb4.size hge4)
    | (go_at_call 9; (with_reducible refine (Tw.list_same _ _).mono ?_); rintro e wz ⟨rfl, hwz⟩; replace hwz := hwz.symm; subst hwz))
  have hS0 := Sit.start (m := m) hb5 hge4 hG5
  clear hG4 hG5 hgr4 hgr5 hb4 hb5 hge4 hmk
  generalize (w5.alloc (.cells #[.int .i64 0] 3)).alloc (.cells (madeCells #[.int .i64 0] m) 3) = wL at *
  obtain ⟨gM, hgM⟩ : ∃ q, w5.heap.size + 1 = q := ⟨_, rfl⟩
  rw [hgM] at hS0 ⊢
  obtain ⟨gP, hgP⟩ : ∃ q, w5.heap.size = q := ⟨_, rfl⟩
  rw [hgP] at hS0 ⊢
  clear hgP hgM
  go_loopw [14, 16, 17, 106] (fun p l a ii wr => ∃ (i kn x lf : Nat) (T : List (Nat × Nat)) (vT : Value) (R M2 AT : List Nat), i ≤ m ∧ ii = .int .i64 i ∧ l = .int .i64 lf ∧ Hid (runS (L.take i) = ⟨kn, T, x :: R.reverse, M2, lf, AT⟩) ∧ Sit w3 wr gT gM m kn T vT M2 p (R ++ [x]) a AT) (fun _ _ _ v _ => m - (intOf v).toNat)
  case atStart => exact ⟨0, 1, 0, 0, [], .slice none 0 0, [], [], [], by omega, rfl, rfl, Lib.hid rfl, hS0⟩
  case round =>
    clear hS0
    obtain ⟨i, kn, x, lf, T, vT, R, M2, AT, hi, rfl, rfl, hst, hS⟩ := hrel
    obtain ⟨wa, rfl⟩ : ∃ x, x = wr := ⟨wr, rfl⟩
    have hI := inv_all hPH.out i (by rw [hLH.out, hlenH.out]; omega)
    rw [hLH.out, hst.out] at hI
    have hkn := hI.kn
    have hkl := hI.kl
    have hml := Lib.hid hI.ml
    have hal := Lib.hid hI.al
    have hll := hI.ll
    have hpl := hI.pl
    simp only [List.length_cons, List.length_reverse] at hkn hkl hll hpl
    have hkn16 : kn ≤ 17 := by omega
    replace hkn := Lib.hid hkn
    by_cases hlt : i < m
    · have hlti : (i : Int) < m := by omega
      have hltS : i < S.size := by rw [hSmH.out]; exact hlt
      have hat : L[i]? = some S[i] := by rw [← hSbH.out]; exact Ti.bts_at S i hltS
      have hnote := hPH.out.note i S[i] (by rw [hLH.out]; exact hat)
      rw [hLH.out, hst.out, hPLH.out] at hnote
      have hstep := run_step hat
      rw [hst.out] at hstep
      obtain ⟨gp, cp, rfl, hcp, _, _, hcellp, hcut⟩ := own_last hS.pa
      obtain ⟨r, hr⟩ : ∃ r, R.length = r := ⟨_, rfl⟩
      rw [hr] at hcp hcellp hcut hpl
      obtain ⟨N1, hN1⟩ : ∃ q, r + 1 = q := ⟨_, rfl⟩
      have hN1i : (N1 : Int) - 1 = r := by omega
      rw [hr, hN1] at hS
      have hr16 : r ≤ 16 := by omega
      by_cases hc : S[i] = 99
      · rw [hc, step_c] at hstep
        have hgy : ((S[i].toNat : Int) == 99) = true := by rw [hc]; rfl
        have hT0 : wa.cell? ⟨gT, 0, none⟩ = some (.int .i64 (kn : Int)) := hS.tr.cell 0
        have hM0 := hS.madeAt (by rw [hml.out]; exact hlt)
        have hMf := hS.ma.frozen i
        have hS1 := hS.made (by rw [hml.out]; exact hlt) kn
        rw [hml.out] at hM0 hS1
        have hT0b : (wa.setCell ⟨gM, i, none⟩ (.int .i64 (kn : Int))).cell? ⟨gT, 0, none⟩ = some (.int .i64 (kn : Int)) := hS1.tr.cell 0
        have hT1b : (wa.setCell ⟨gM, i, none⟩ (.int .i64 (kn : Int))).cell? ⟨gT, 1, none⟩ = some vT := hS1.tr.cell 1
        rw [hr, hN1]
        have hS1L := Lib.hid (hS1.alloc (.cells #[.int .i64 (x : Int), .int .i64 (kn : Int)] 37))
        obtain ⟨N2, hN2⟩ : ∃ q, N1 + 1 = q := ⟨_, rfl⟩
        have hN2i : (N2 : Int) - 1 = N1 := by omega
        have hPl : (natI (R ++ [x])).length = N1 := by rw [natI_len, List.length_append, hr]; exact hN1
        have hPlH := Lib.hid hPl
        have hPL2 : (R ++ [x]).length = N1 := by rw [List.length_append, hr]; exact hN1
        have hPL2H := Lib.hid hPL2
        have hTl : T.length ≤ 1000000000 := by omega
        have hstepH := Lib.hid hstep
        have hN2H := Lib.hid hN2
        have hAl : (natI AT).length ≤ 1000000000 := by rw [natI_len, hal.out]; omega
        clear hPl hPL2 hstep hnote hcut hN2
        go_wp2_with (first
          | (at_builtin
             refine Ti.wpList_pushP rfl _ _ rfl rfl hS1L.out.ti _ 1 x kn rfl (by first | exact Blk.new _ _ _ | exact blk_lit (by simp)) hTl hS1L.out.be.size ?_
             intro v6 w6 ho6 hgr6
             obtain ⟨A6, c6, rfl⟩ := ho6.form
             have hT6 := hS1L.out.tiesT hgr6
             have hS6 := hS1L.out.ties ho6 hgr6
             have hc61 : w6.cell? ⟨gT, 1, none⟩ = some vT := hT6.cell 1
             have hf61 := hT6.frozen 1
             obtain ⟨Tl, hTl2⟩ : ∃ q, (T ++ [(x, kn)]).length = q := ⟨_, rfl⟩
             rw [hTl2] at hS6 ⊢
             have hc60 : (w6.setCell ⟨gT, 1, none⟩ (.slice A6 Tl c6)).cell? ⟨gT, 0, none⟩ = some (.int .i64 (kn : Int)) := hS6.tr.cell 0
             have hS6L := Lib.hid (hS6.alloc (.cells #[.int .i64 (kn : Int)] 3))
             clear hT6 hTl2 ho6 hS6
             have _k1 := hS1L)
          | (at_builtin
             clear _k1
             refine wpList_push rfl _ _ rfl rfl hS6L.out.pa _ 1 (kn : Int) rfl (by first | exact Blk.new _ _ _ | exact blk_lit (by simp)) (by rw [hPlH.out]; omega) hS6L.out.be.size ?_
             intro g8 c8 w8 ho8 hgr8 hat8 hlt8
             rw [natI_snoc, hPlH.out, hN2H.out] at ho8
             rw [hPlH.out, hN2H.out]
             have hS8 := hS6L.out.path ho8 hgr8 hat8
             have hc80 : w8.cell? ⟨gT, 0, none⟩ = some (.int .i64 (kn : Int)) := hS8.tr.cell 0
             have hf80 := hS8.tr.frozen 0
             have hS9 : Sit w3 (w8.setCell ⟨gT, 0, none⟩ (.int .i64 ((kn : Int) + 1))) gT gM m (kn + 1) _ _ _ _ _ _ _ := hS8.knots (kn + 1)
             have hc9 := own_lastAt hS9.pa
             rw [hPL2H.out] at hc9
             have hS9L := Lib.hid (hS9.alloc (.cells #[.int .i64 (kn : Int)] 3))
             clear ho8 hS8 hS9
             have _k2 := hS1L)
          | (at_builtin
             clear _k2
             refine wpList_push rfl _ _ rfl rfl hS9L.out.aa _ 1 (kn : Int) rfl (by first | exact Blk.new _ _ _ | exact blk_lit (by simp)) hAl hS9L.out.be.size ?_
             intro g10 c10 w10 ho10 hgr10 hat10 hlt10
             rw [natI_snoc] at ho10
             have hS10 := hS9L.out.stood ho10 hgr10 hat10))
        go_roundw
        case rel => exact ⟨i + 1, kn + 1, kn, lf, T ++ [(x, kn)], _, R ++ [x], M2 ++ [kn], AT ++ [kn], by omega, by go_num, rfl, Lib.hid (by rw [hstepH.out]; simp), hS10⟩
        case measure => simp only [intOf]; omega
      · have hgy : ((S[i].toNat : Int) == 99) = false := by
          have h3 : S[i].toNat ≠ 99 := fun h => hc (UInt8.toNat_inj.1 h)
          simp only [beq_eq_false_iff_ne, ne_eq]
          omega
        rw [step_n _ hc] at hstep
        obtain ⟨hxz, b, hPb, hbi, hbx⟩ := note_at (hnote.resolve_left hc)
        simp only [List.headD_cons] at hxz hbx
        have hxz2 : ((x : Int) == 0) = false := by simp; omega
        have hlfn : lf < n := by rw [← hblH.out]; exact (List.getElem?_eq_some_iff.1 hPb).1
        have hlfi : ¬ (n : Int) ≤ lf := by omega
        have hlfd : decide (n ≤ lf) = false := decide_eq_false (by omega)
        obtain ⟨gB, hAB, hB0, hB1⟩ := ties_at (hrB.below hS.be) hPb
        subst hAB
        have hMb := hS.madeOf (i := b) (by rw [hml.out]; exact hbi)
        rw [hbx] at hMb
        have hb0 : ¬ (b : Int) < 0 := by omega
        have hbi2 : ¬ (i : Int) ≤ b := by omega
        have hbid : decide (i ≤ b) = false := decide_eq_false (by omega)
        have hbm : (b : Int) < m := by omega
        have hlfB : (lf : Int) < n := by omega
        obtain ⟨R', y, hRy⟩ : ∃ R' y, R = R' ++ [y] := by
          rcases List.eq_nil_or_concat R with h | ⟨R', y, h⟩
          · obtain ⟨p, hp⟩ := hI.pa
            rw [h] at hp
            cases p with
            | nil =>
              injection hp with hp _
              exact absurd hp hxz
            | cons z l =>
              injection hp with _ hp
              simp at hp
          · exact ⟨R', y, by simpa using h⟩
        subst hRy
        have hcy := own_lastAt hcut
        obtain ⟨r2, hr2⟩ : ∃ q, R'.length = q := ⟨_, rfl⟩
        rw [hr2] at hcy
        have hrr : r2 + 1 = r := by rw [← hr, ← hr2]; simp
        have hr2i : (r : Int) - 1 = r2 := by omega
        have hrc : (r : Int) ≤ cp := by omega
        have hstepH := Lib.hid hstep
        have hS2 := (hS.cut hcut).skip (by rw [hml.out]; exact hlt)
        have hS2L := Lib.hid (hS2.alloc (.cells #[.int .i64 (y : Int)] 3))
        have hAl : (natI AT).length ≤ 1000000000 := by rw [natI_len, hal.out]; omega
        rw [hr, hN1]
        clear hstep hnote hcut hPb hbx hS2 hS hbi hr hr2 hrr hN1
        go_wp2_with (first
          | (at_builtin
             refine wpList_push rfl _ _ rfl rfl hS2L.out.aa _ 1 (y : Int) rfl (by first | exact Blk.new _ _ _ | exact blk_lit (by simp)) hAl hS2L.out.be.size ?_
             intro g10 c10 w10 ho10 hgr10 hat10 hlt10
             rw [natI_snoc] at ho10
             have hS10 := hS2L.out.stood ho10 hgr10 hat10))
        go_roundw
        case rel => exact ⟨i + 1, kn, y, lf + 1, T, vT, R', M2 ++ [0], AT ++ [y], by omega, by go_num, by go_num, Lib.hid (by rw [hstepH.out]; simp), hS10⟩
        case measure => simp only [intOf]; omega
    · have hlti : ¬ (i : Int) < m := by omega
      obtain rfl : m = i := by omega
      have hst2 := hst.out
      rw [List.take_of_length_le (by rw [hlenH.out]; exact Nat.le_refl _)] at hst2
      have hpath := hPH.out.path
      have hknn := hPH.out.kn
      have htr := hPH.out.tree
      have htb := hPH.out.tb
      rw [hLH.out, hst2] at hpath hknn htr htb
      rw [hCLH.out] at htb
      simp only [] at hpath hknn htr htb
      injection hpath with hx0 hR0
      have hR1 : R = [] := by simpa using hR0
      subst hR1
      subst hx0
      have hTn : T.length = n := by have := hkn.out; omega
      rw [← hknn] at htr htb
      obtain ⟨A, c, rfl, _, hti⟩ := own_ties hS.ti
      have hG := hS.tr
      have hRO := htb.rea
      rw [hTn] at hG
      have cK := Lib.hid (fun w' (h : Br.TieS w' A T) => Br.Check_ok kn T htr A c w' h)
      have cW := Lib.hid (fun w' k (hk : Br.WayOk kn (Br.woodT kn T T.length) 0 k) (h : Br.TieS w' A T) => Br.Way_ok kn T htr 0 k hk A c w' h)
      have cR := Lib.hid (fun w' (h : Br.TieS w' A T) => Br.Reach_rea kn T htr (by rw [hTn]; exact hRO) A c w' h)
      have cD := Lib.hid (fun w' (h : Br.TieS w' A T) => Br.Degrees_deg kn T htr A c w' h)
      rw [hTn] at cK cW cR cD
      have hWl : (Br.woodT kn T n).length = kn := Br.woodI_len _ _
      obtain ⟨W, hW⟩ : ∃ W, Br.woodT kn T n = W := ⟨_, rfl⟩
      rw [hW] at cW cR cD htb hWl
      have htbH := Lib.hid htb
      have hWlH := Lib.hid hWl
      have hTI := Lib.hid (fun w' (hb : Below wa.heap.size wa w') => hti.below hb)
      have hGf := Lib.hid (fun w' (hb : Below wa.heap.size wa w') => hG.below hb hG.lt)
      obtain ⟨gp, cp, rfl, _, _, _, _, _⟩ := own_last hS.pa
      obtain ⟨AA, cA3, rfl, hrA⟩ := hS.aa.reads
      rw [natI_len, hal.out] at hrA ⊢
      rw [show ([] : List Nat).length + 1 = 1 from rfl]
      have hbe := hS.be
      have hkn1 : (n : Int) + 1 = kn := by omega
      clear hst2 hknn htr htb hRO hTn hW hWl hst hS hI hR0
      go_wp2_with (first
        | (with_reducible show wpList _ _ _ (⟨_, .load 35 _, _, _, _, _⟩ :: _) _ _
           refine wpList_load_blk rfl 35 _ rfl gT rfl 35 #[.int .i64 (kn : Int), .slice A n c] _ (by assumption) Tryz.underlying35 rfl info_tree ?_)
        | (go_at_call 10; (with_reducible refine (cK.out _ hti).mono ?_); rintro e w7 ⟨rfl, hb7⟩))
      have hCL0 := Lib.hid (show ∀ x ∈ CL, 0 ≤ x by rw [← hCLH.out]; exact coin_pos)
      go_loopw [215] (fun v wr => ∃ j : Nat, j ≤ m ∧ v = .int .i64 j ∧ Below wa.heap.size wa wr) (fun v _ => m - (intOf v).toNat)
      case atStart => exact ⟨0, by omega, rfl, hb7⟩
      case round =>
        clear hb7
        obtain ⟨j, hj, rfl, hb⟩ := hrel
        obtain ⟨wb, rfl⟩ : ∃ x, x = wr := ⟨wr, rfl⟩
        have hGb := hGf.out wb hb
        by_cases hlt2 : j < m
        · have hlti2 : (j : Int) < m := by omega
          obtain ⟨ad, z, rfl, _, hcell, hz⟩ := (hrA.below hb).at_ hlt2
          obtain ⟨k', hk', rfl⟩ := natI_at hz.out
          obtain ⟨adC, cz, rfl, _, hcC, hzC⟩ := (hrC3.below (hbe.trans (hb.mono hbe.size))).at_ hlt2
          have hway := htbH.out.way j (by rw [hal.out]; exact hlt2)
          rw [List.getD_eq_getElem?_getD, List.getD_eq_getElem?_getD, hk', hzC.out, Option.getD_some, Option.getD_some] at hway
          have hcz := hCL0.out cz (List.mem_of_getElem? hzC.out)
          obtain ⟨hwo, hwl⟩ := way_of (by omega) hway hcz
          have cWj := Lib.hid (cW.out wb k' hwo (hTI.out wb hb))
          obtain ⟨WL, hWL⟩ : ∃ q, (Br.wayW W 0 k').length = q := ⟨_, rfl⟩
          rw [Int.natCast_zero, hWL] at cWj
          rw [hWL] at hwl
          have hwl2 : cz + 1 = (WL : Int) := by omega
          have hWL9 : WL ≤ W.length := by rw [← hWL]; exact Br.walkF_len W k' W.length 0 (-1)
          have hczb : cz ≤ 1000 := by rw [hWlH.out] at hWL9; omega
          clear hway hwo hWL hwl hz hk' hWL9
          go_wp2_with (first
            | (with_reducible show wpList _ _ _ (⟨_, .load 35 _, _, _, _, _⟩ :: _) _ _
               refine wpList_load_blk rfl 35 _ rfl gT rfl 35 #[.int .i64 (kn : Int), .slice A n c] _ (by assumption) Tryz.underlying35 rfl info_tree ?_)
            | (go_at_call 11; (with_reducible refine cWj.out.mono ?_); rintro e w8 ⟨⟨AW, cw, rfl, hrW⟩, hb8⟩
               have hb9 := hb.trans (hb8.mono hb.size)
               obtain ⟨adC2, z2, e2, _, hcC8, hz2⟩ := (hrC3.below (hbe.trans (hb9.mono hbe.size))).at_ hlt2
               obtain rfl : adC = adC2 := by simpa using e2
               obtain rfl : cz = z2 := by have h3 := hzC.out.symm.trans hz2.out; injection h3
               clear hz2 hrW hzC e2))
          go_roundw
          case rel => exact ⟨j + 1, by omega, by go_num, hb9⟩
          case measure => simp only [intOf]; omega
        · have hlti2 : ¬ (j : Int) < m := by omega
          obtain rfl : m = j := by omega
          have cRb := Lib.hid (cR.out wb (hTI.out wb hb))
          go_wp2_with (first
            | (with_reducible show wpList _ _ _ (⟨_, .load 35 _, _, _, _, _⟩ :: _) _ _
               refine wpList_load_blk rfl 35 _ rfl gT rfl 35 #[.int .i64 (kn : Int), .slice A n c] _ (by assumption) Tryz.underlying35 rfl info_tree ?_)
            | (go_at_call 12; (with_reducible refine cRb.out.mono ?_); rintro e w8 ⟨⟨AR, cr, rfl, hrR⟩, hb8⟩
               have hb9 := hb.trans (hb8.mono hb.size)
               have hG9 := hGf.out w8 hb9
               have cDb := Lib.hid (cD.out w8 (hTI.out w8 hb9)))
            | (go_at_call 13; (with_reducible refine cDb.out.mono ?_); rintro e w9 ⟨⟨AD, cd, rfl, hrD⟩, hb10⟩
               have hb11 := hb9.trans (hb10.mono hb9.size)
               have hrR9 := hrR.below hb10))
          have hrC9 := hrC3.below (hbe.trans (hb11.mono hbe.size))
          have hk0 : (0 : Int) < kn := by omega
          have hk0n : 0 < kn := by omega
          obtain ⟨adR, xR, rfl, _, hcR, hxR⟩ := hrR9.at_ hk0n
          obtain ⟨R0, hR0, rfl⟩ := natI_at hxR.out
          have hcR2 := hcR
          rw [add_nil] at hcR2
          have hR0H := Lib.hid hR0
          clear hxR hR0 hrR hrR9 hGb hb8 hb10
          go_cut [280] from 249 to 280 (fun v wx => v = .bool false ∧ ∃ q, wx = w9.drewN q)
          case first =>
            rcases Nat.eq_zero_or_pos n with hn0 | hn0
            · have hnf : decide ((0 : Int) < n) = false := decide_eq_false (by omega)
              have hnd : decide (0 < n) = false := decide_eq_false (by omega)
              replace hn0 := Lib.hid hn0
              go_quiet (fail)
              go_wp2_with (fail)
              go_meet
              exact ⟨rfl, _, rfl⟩
            · have hm0 : 0 < m := by omega
              obtain ⟨gC, hgC⟩ := hfC hm0
              subst hgC
              have hnt : decide ((0 : Int) < n) = true := decide_eq_true (by omega)
              have hnd : decide (0 < n) = true := decide_eq_true hn0
              have hmax := htbH.out.max.resolve_left (by omega)
              rw [List.getD_eq_getElem?_getD, hR0H.out, Option.getD_some] at hmax
              have cM := Lib.hid (fun q => Tryz.slices_Max_int gC 0 m cC2 CL (w9.drewN q) hm0 (by rw [hclH.out]; exact Nat.le_refl _) (by omega) (Pk.RInts.none_none (hrC9.drewN q)))
              rw [List.take_of_length_le (by rw [hclH.out]; exact Nat.le_refl _), maxOf_eq hCL0.out (by rw [hclH.out]; exact hm0), ← hmax] at cM
              clear hmax
              go_quiet (first
                | (go_at_call 14; (with_reducible exact Calls.quiet_of_same (cM.out _))))
              go_wp2_with (fail)
              go_meet
              exact ⟨rfl, _, rfl⟩
          case rest =>
            obtain ⟨rfl, nq, hwc⟩ := hcut
            have hrC10 : RInts wc w3.heap.size AC m CL := by rw [hwc]; exact hrC9.drewN nq
            have hbc : Below wa.heap.size wa wc := by rw [hwc]; exact below_drewN hb11 nq
            obtain ⟨adD, xD, rfl, _, hcD, hxD⟩ := hrD.at_ hk0n
            obtain ⟨D0, hD0, rfl⟩ := natI_at hxD.out
            have hcD2 : wc.cell? adD = some (.int .i64 (D0 : Int)) := by rw [hwc]; rw [add_nil] at hcD; exact hcD
            have hcD3 : wc.cell? (adD.add 0) = some (.int .i64 (D0 : Int)) := by rw [hwc]; exact hcD
            have hdeg := htbH.out.deg
            rw [List.getD_eq_getElem?_getD, hD0, Option.getD_some] at hdeg
            have hdegH := Lib.hid hdeg
            clear hxD hD0 hrD hdeg hcD hwc hb9 hb11 hrC9 hcR hcR2 hb
            obtain ⟨w10, rfl⟩ : ∃ x, x = wc := ⟨wc, rfl⟩
            go_wp2_with (fail)
            go_loopw [26, 283] (fun u v wr => ∃ j z : Nat, j ≤ m ∧ v = .int .i64 j ∧ u = .int .i64 z ∧ z ≤ j ∧ Hid (((CL.take j).filter fun c => c == 0).length = z) ∧ w10 = wr) (fun _ v _ => m - (intOf v).toNat)
            case atStart => exact ⟨0, 0, by omega, rfl, rfl, by omega, Lib.hid rfl, rfl⟩
            case round =>
              obtain ⟨j, z, hj, rfl, rfl, hzj, hz, hw⟩ := hrel
              subst hw
              by_cases hlt3 : j < m
              · have hlti3 : (j : Int) < m := by omega
                obtain ⟨adC, cz, rfl, _, hcC, hzC⟩ := hrC10.at_ hlt3
                have hct := count_at hzC.out
                rw [hz.out] at hct
                clear hzC
                by_cases hz0 : cz = 0
                · have hzb : (cz == 0) = true := by simpa using hz0
                  rw [if_pos hz0] at hct
                  have hctH := Lib.hid hct
                  replace hz0 := Lib.hid hz0
                  clear hct hz
                  go_wp2_with (fail)
                  go_roundw
                  case rel => exact ⟨j + 1, z + 1, by omega, by go_num, by go_num, by omega, hctH, by first | rfl | trivial⟩
                  case measure => simp only [intOf]; omega
                · have hzb : (cz == 0) = false := by simpa using hz0
                  rw [if_neg hz0] at hct
                  have hctH := Lib.hid hct
                  clear hct hz
                  go_wp2_with (fail)
                  go_roundw
                  case rel => exact ⟨j + 1, z, by omega, by go_num, rfl, by omega, hctH, by first | rfl | trivial⟩
                  case measure => simp only [intOf]; omega
              · have hlti3 : ¬ (j : Int) < m := by omega
                obtain rfl : m = j := by omega
                have hzD : D0 = z := by
                  have h3 := hz.out
                  rw [List.take_of_length_le (by rw [hclH.out]; exact Nat.le_refl _)] at h3
                  rw [hdegH.out, h3]
                subst hzD
                have hbw := hbe3.trans ((hbe.trans (hbc.mono hbe.size)).mono hbe3.size)
                clear hz
                go_wp2_with (first
                  | (go_at_call 15; (with_reducible refine (Tw.branchWorks_any _ (hTH.out.later hbw)).mono ?_); rintro e w12 ⟨rfl, hb12⟩
                     have hb13 := hbw.trans (hb12.mono hbw.size)))
                go_ret
                exact ⟨rfl, hb13⟩
end Ns
end Go.Proofs.YthbkfhhnhiplkaaGreatDoor
