/- The law TopDual: ties between the triangles. -/
import Derived.Test.YtkbfmogjhjdjmaaDoorDuUX
namespace Go.Proofs.YtkbfmogjhjdjmaaDoor
open Go.RowKit
namespace Du
set_option linter.unusedSimpArgs false
theorem zero_tree (w : World) : (zeroValue 33).run Tryd.prog w = .ok (.agg #[.int .i64 0, .slice none 0 0]) w := Tryd.zeroValue33 w
theorem info_tree : (Tryd.prog.info? 33).map (·.size) = some 2 := by kernel_rfl
theorem info_by : (Tryd.prog.info? 22).map (·.size) = some 8 := by kernel_rfl
theorem bytesV_size {bs : List Nat} (h : bs.length = 8) : (bytesV bs).size = 8 := by simp [bytesV, h]
theorem OwnP_none {w w' : World} {base : Nat} {v : Value} {ps : List (Nat × Nat)} (h : Ti.OwnP w base v ps) (hb : w.grownBy w' none) : Ti.OwnP w' base v ps := h.none_ hb
set_option maxRecDepth 100000 in
set_option maxHeartbeats 4000000 in
theorem law_any (bs : List Nat) (hbs : bs.length = 8) (hb9 : ∀ b ∈ bs, b < 256) (c : Nat) (hc : c < 256) (w : World) (hTab : Cl.Tab w) :
    Calls Tryd.prog 3 #[.agg (bytesV bs), .int .u8 (c : Int)] w fun e w' => e = .returned (.bool true) ∧ Below w.heap.size w w' := by
  have hsh := Lib.hid (fun w' => shape_ok bs hbs hb9 c hc w')
  have hpw := Lib.hid (fun w' (hb : Below w.heap.size w w') => patternWorks_any w' (hTab.later hb))
  obtain ⟨n, hn⟩ : ∃ n, 3 + c % 6 = n := ⟨_, rfl⟩
  rw [hn] at hsh
  have hn3 : 3 ≤ n := by omega
  have hn8 : n ≤ 8 := by omega
  have hsz := bytesV_size hbs
  obtain ⟨hlen, hI, hD, hdual⟩ := piece_nice bs n hn3 hn8
  obtain ⟨o, ho⟩ : ∃ o, goS bs 8 n [] = o := ⟨_, rfl⟩
  rw [ho] at hsh hlen hI hD hdual
  obtain ⟨V, hV⟩ : ∃ V, bytesV bs = V := ⟨_, rfl⟩
  rw [hV] at hsh hsz ⊢
  clear ho hV hn hbs hb9 hTab
  have hSZ := Lib.hid hsz
  clear hsz
  have HL := Lib.hid hlen
  cases hG : pieceOk o with
  | false =>
    have hE0 : chkE o = 5 := by unfold chkE; rw [if_neg (by rw [hG]; decide)]
    have htri := Lib.hid (fun w' A cc (hP : PtS w' A o) (hcc : n ≤ cc) => Triangles_bad A n cc o HL.out hn3 hn8 hcc hI hD hG w' hP)
    have hchk := Lib.hid (fun w' A cc (hP : PtS w' A o) (hcc : n ≤ cc) => Check_ok A n cc o HL.out hn3 hn8 hcc hI hD w' hP)
    rw [hE0] at hchk
    clear hE0 hG hI hD hdual hlen
    go_enter Tryd.func3, Tryd.ntmps3
    go_wp2_with (first
      | (with_reducible show wpList _ _ _ (⟨some 2, .box 22 _, _, _, _, _⟩ :: _) _ _
         refine wpList_box_blk rfl 22 _ rfl V rfl ?_
         intro w1 g1 hG1 hgr1 hge1
         have hb1 := below_none (Below.refl w.heap.size w) hgr1 (Nat.le_refl _))
      | (with_reducible show wpList _ _ _ (⟨_, .load 22 _, _, _, _, _⟩ :: _) _ _
         refine wpList_load_blk rfl 22 _ rfl g1 rfl 22 _ _ hG1 Tryd.underlying22 rfl (info_by.trans (congrArg some hSZ.out.symm)) ?_)
      | (go_at_call 4; (with_reducible refine (hsh.out _).mono ?_); rintro e w2 ⟨v2, rfl, ho2, hb2⟩
         have hbb2 := hb1.trans (hb2.mono hb1.size)
         obtain ⟨A2, c2, rfl, hc2, hP2⟩ := ho2.pts
         rw [HL.out] at hc2
         rw [HL.out])
      | (go_at_call 5; (with_reducible refine (htri.out _ _ _ hP2 hc2).mono ?_); rintro e w3 ⟨rfl, hb3⟩
         have hbb3 := hbb2.trans (hb3.mono hbb2.size)
         have hP3 := hP2.below hb3)
      | (go_at_call 6; (with_reducible refine (hchk.out _ _ _ hP3 hc2).mono ?_); rintro e w4 ⟨rfl, hb4⟩
         have hbb4 := hbb3.trans (hb4.mono hbb3.size))
      | (go_at_call 7; (with_reducible refine (hpw.out _ hbb4).mono ?_); rintro e w5 ⟨rfl, hb5⟩
         have hbb5 := hbb4.trans (hb5.mono hbb4.size)))
    go_ret
    exact ⟨rfl, hbb5⟩
  | true =>
    have htri := Lib.hid (fun w' A cc (hP : PtS w' A o) (hcc : n ≤ cc) => Triangles_ok A n cc o HL.out hn3 hn8 hcc hI hD hG w' hP)
    have hears := Lib.hid (fun w' A cc (hP : PtS w' A o) (hcc : n ≤ cc) => Ears_ok A n cc o HL.out hn3 hn8 hcc hI hD hG w' hP)
    obtain ⟨T, hTt⟩ : ∃ T, tris (n - 3) o = T := ⟨_, rfl⟩
    have hTl : T.length = n - 2 := by rw [← hTt, tris_len]; omega
    rw [hTt] at htri
    unfold dualB at hdual
    rw [hG, hlen, hTt] at hdual
    simp only [Bool.not_true, Bool.false_or, Bool.and_eq_true, List.all_eq_true, List.mem_range] at hdual
    obtain ⟨htree, hknot⟩ := hdual
    obtain ⟨m, hm⟩ : ∃ m, m = n - 2 := ⟨_, rfl⟩
    rw [← hm] at hTl
    rw [hTl] at htree hknot
    have HTREE := Lib.hid (tree_of htree)
    have HKNOT := Lib.hid hknot
    have HTIES : Hid (tiesA T m = ties T) := by rw [Hid, ties_eq, hTl]
    have HTL := Lib.hid hTl
    have hmn : (n : Int) - 2 = m := by omega
    have hm1 : 1 ≤ m := by omega
    have hm6 : m ≤ 6 := by omega
    have hmi : (m : Int) ≤ 6 := by omega
    clear htree hknot hG hI hD hlen hTt hTl hm
    go_enter Tryd.func3, Tryd.ntmps3
    go_wp2_with (first
      | (with_reducible show wpList _ _ _ (⟨some 2, .box 22 _, _, _, _, _⟩ :: _) _ _
         refine wpList_box_blk rfl 22 _ rfl V rfl ?_
         intro w1 g1 hG1 hgr1 hge1
         have hb1 := below_none (Below.refl w.heap.size w) hgr1 (Nat.le_refl _))
      | (with_reducible show wpList _ _ _ (⟨_, .load 22 _, _, _, _, _⟩ :: _) _ _
         refine wpList_load_blk rfl 22 _ rfl g1 rfl 22 _ _ hG1 Tryd.underlying22 rfl (info_by.trans (congrArg some hSZ.out.symm)) ?_)
      | (go_at_call 4; (with_reducible refine (hsh.out _).mono ?_); rintro e w2 ⟨v2, rfl, ho2, hb2⟩
         have hbb2 := hb1.trans (hb2.mono hb1.size)
         obtain ⟨A2, c2, rfl, hc2, hP2⟩ := ho2.pts
         rw [HL.out] at hc2
         rw [HL.out])
      | (go_at_call 5; (with_reducible refine (htri.out _ _ _ hP2 hc2).mono ?_); rintro e w3 ⟨v3, rfl, hT3, hb3⟩
         have hbb3 := hbb2.trans (hb3.mono hbb2.size)
         have hP3 := hP2.below hb3
         obtain ⟨g6, c6, rfl, hc6, hR3⟩ := hT3.tri (by rw [HTL.out]; omega)
         rw [HTL.out] at hc6
         rw [HTL.out])
      | (with_reducible show wpList _ _ _ (⟨_, .alloc 33, _, _, _, _⟩ :: _) _ _
         refine wpList_alloc_blk rfl 33 rfl _ zero_tree ?_
         intro w4 g8 hG4 hgr4 hge4
         have hbb4 := below_none hbb3 hgr4 hbb3.size)
      | (with_reducible show wpList _ _ _ (⟨_, .store 33 _ _, _, _, _, _⟩ :: _) _ _
         refine wpList_store_blk rfl 33 _ _ rfl g8 #[.int .i64 m, .slice none 0 0] rfl rfl 33 _ hG4 info_tree rfl (by simp [Value.oneCell']) ?_
         intro w5 hG5 hgr5
         have hb35 : Below w3.heap.size w3 w5 := below_some (below_none (Below.refl _ _) hgr4 (Nat.le_refl _)) hgr5 (by have := (below_none (Below.refl w3.heap.size w3) hgr4 (Nat.le_refl _)).size; omega) hge4))
    clear hb1 hb2 hbb2 hgr4 hgr5 hG4 hb3 hbb4 hgr1
    have HBB3 := Lib.hid hbb3
    clear hbb3
    go_loopw [55] (fun v wr => ∃ (a : Nat) (vt : Value), a ≤ m ∧ v = .int .i64 a ∧ Blk wr g8 33 #[.int .i64 m, vt] ∧ Ti.OwnP wr w3.heap.size vt (tiesA T a) ∧ Below w3.heap.size w3 wr) (fun v _ => m - (intOf v).toNat)
    case atStart => exact ⟨0, .slice none 0 0, by omega, rfl, hG5, Ti.OwnP.nil _ _, hb35⟩
    case round =>
      clear hG5 hb35
      obtain ⟨a, va, ha, rfl, hGa, hOa, hba⟩ := hrel
      obtain ⟨wa, rfl⟩ : ∃ x, x = wr := ⟨wr, rfl⟩
      by_cases hlta : a < m
      · have hltai : (a : Int) < m := by omega
        go_wp2_with (fail)
        go_loopw [59] (fun v wr => ∃ (b : Nat) (vt : Value), b ≤ a ∧ v = .int .i64 b ∧ Blk wr g8 33 #[.int .i64 m, vt] ∧ Ti.OwnP wr w3.heap.size vt (tiesA T a ++ tieRow T a b) ∧ Below w3.heap.size w3 wr) (fun v _ => a - (intOf v).toNat)
        case atStart => exact ⟨0, va, by omega, rfl, hGa, by rw [tieRow, List.append_nil]; exact hOa, hba⟩
        case round =>
          clear hGa hOa hba
          obtain ⟨b, vb, hb, rfl, hGb, hOb, hbb⟩ := hrel
          obtain ⟨wb, rfl⟩ : ∃ x, x = wr := ⟨wr, rfl⟩
          by_cases hltb : b < a
          · have hltbi : (b : Int) < a := by omega
            have hltbm : (b : Int) < m := by omega
            have a0 : (0 : Int) ≤ a := by omega
            have b0 : (0 : Int) ≤ b := by omega
            have hRb := hR3.below hbb
            have cT := tri_get (l := T) (k := a) (by rw [HTL.out]; exact hlta)
            have dT := tri_get (l := T) (k := b) (by rw [HTL.out]; omega)
            have hrow : tiesA T a ++ tieRow T a (b + 1) = (tiesA T a ++ tieRow T a b) ++ if 2 ≤ totC (triD T a) (triD T b) 3 then [(b, a)] else [] := by rw [tieRow, List.append_assoc]
            have hIs := Lib.hid (fun i hi => index_tri (triD T a) i hi)
            have hIt := Lib.hid (fun i hi => index_tri (triD T b) i hi)
            obtain ⟨s, hs⟩ : ∃ s, triD T a = s := ⟨_, rfl⟩
            obtain ⟨t, ht⟩ : ∃ s, triD T b = s := ⟨_, rfl⟩
            rw [hs] at cT hrow hIs
            rw [ht] at dT hrow hIt
            clear hs ht
            have HROW := Lib.hid hrow
            clear hrow
            have hEq := Lib.hid (fun i j => eq_pt (pt3 s i) (pt3 t j))
            have hRC := Lib.hid (fun i j => And.intro (show rowC s t i (j + 1) = rowC s t i j + if pt3 s i = pt3 t j then 1 else 0 from rfl) (rowC_le s t i j))
            have hTC := Lib.hid (fun i => And.intro (show totC s t (i + 1) = totC s t i + rowC s t i 3 from rfl) (totC_le s t i))
            have hTC0 := Lib.hid (show totC s t 0 = 0 from rfl)
            have hRC0 := Lib.hid (fun i => show rowC s t i 0 = 0 from rfl)
            obtain ⟨TOT, hTOT⟩ : ∃ f, totC s t = f := ⟨_, rfl⟩
            obtain ⟨ROW, hROWf⟩ : ∃ f, rowC s t = f := ⟨_, rfl⟩
            obtain ⟨PS, hPS⟩ : ∃ f, pt3 s = f := ⟨_, rfl⟩
            obtain ⟨PT, hPT⟩ : ∃ f, pt3 t = f := ⟨_, rfl⟩
            rw [hTOT] at hTC hTC0 HROW
            rw [hROWf] at hTC hRC hRC0
            rw [hPS] at hIs hEq hRC
            rw [hPT] at hIt hEq hRC
            clear hTOT hROWf hPS hPT
            obtain ⟨⟨s1, s2⟩, ⟨s3, s4⟩, ⟨s5, s6⟩⟩ := s
            obtain ⟨⟨t1, t2⟩, ⟨t3, t4⟩, ⟨t5, t6⟩⟩ := t
            have c0 : wb.cell? ⟨g6, a * 6, none⟩ = some (.int .i64 s1) := (hRb).at_ cT (r := 0) rfl
            have c1 : wb.cell? ⟨g6, a * 6 + 1, none⟩ = some (.int .i64 s2) := (hRb).at_ cT (r := 1) rfl
            have c2 : wb.cell? ⟨g6, a * 6 + 2, none⟩ = some (.int .i64 s3) := (hRb).at_ cT (r := 2) rfl
            have c3 : wb.cell? ⟨g6, a * 6 + 3, none⟩ = some (.int .i64 s4) := (hRb).at_ cT (r := 3) rfl
            have c4 : wb.cell? ⟨g6, a * 6 + 4, none⟩ = some (.int .i64 s5) := (hRb).at_ cT (r := 4) rfl
            have c5 : wb.cell? ⟨g6, a * 6 + 5, none⟩ = some (.int .i64 s6) := (hRb).at_ cT (r := 5) rfl
            go_wp2_with (fail)
            clear c0 c1 c2 c3 c4 c5
            have h110 : (0 : Int) = ((TOT 0 : Nat) : Int) := by rw [hTC0.out]; rfl
            go_loopw [11, 66] (fun u v wr => ∃ i : Nat, i ≤ 3 ∧ v = .int .i64 i ∧ u = .int .i64 (TOT i : Nat) ∧ Below wb.heap.size wb wr) (fun _ v _ => 3 - (intOf v).toNat)
            case atStart => exact ⟨0, by omega, rfl, by rw [← h110], Below.refl _ _⟩
            case round =>
              clear h110
              obtain ⟨i, hi, rfl, rfl, hbi⟩ := hrel
              obtain ⟨wc, rfl⟩ : ∃ x, x = wr := ⟨wr, rfl⟩
              by_cases hlti : i < 3
              · have hltii : (i : Int) < 3 := by omega
                have hI := hIs.out i hlti
                obtain ⟨P, hP⟩ : ∃ p, PS i = p := ⟨_, rfl⟩
                have hEq2 := Lib.hid (fun j => hEq.out i j)
                have hRC2 := Lib.hid (fun j => hRC.out i j)
                rw [hP] at hI hEq2 hRC2
                clear hP
                obtain ⟨p1, p2⟩ := P
                obtain ⟨hTCi, hTle⟩ := hTC.out i
                have HTCi := Lib.hid hTCi
                clear hTCi
                have hR0 := Lib.hid (hRC0.out i)
                have hRc := hRb.below hbi
                have d0 : wc.cell? ⟨g6, b * 6, none⟩ = some (.int .i64 t1) := (hRc).at_ dT (r := 0) rfl
                have d1 : wc.cell? ⟨g6, b * 6 + 1, none⟩ = some (.int .i64 t2) := (hRc).at_ dT (r := 1) rfl
                have d2 : wc.cell? ⟨g6, b * 6 + 2, none⟩ = some (.int .i64 t3) := (hRc).at_ dT (r := 2) rfl
                have d3 : wc.cell? ⟨g6, b * 6 + 3, none⟩ = some (.int .i64 t4) := (hRc).at_ dT (r := 3) rfl
                have d4 : wc.cell? ⟨g6, b * 6 + 4, none⟩ = some (.int .i64 t5) := (hRc).at_ dT (r := 4) rfl
                have d5 : wc.cell? ⟨g6, b * 6 + 5, none⟩ = some (.int .i64 t6) := (hRc).at_ dT (r := 5) rfl
                obtain ⟨C0, hC0⟩ : ∃ x, TOT i = x := ⟨_, rfl⟩
                rw [hC0] at HTCi hTle ⊢
                clear hC0
                go_wp2_with (first
                  | (with_reducible show wpList _ _ _ (⟨_, .alloc 35, _, _, _, _⟩ :: _) _ _
                     refine wpList_alloc_blk rfl 35 rfl _ zero_pt ?_
                     intro wd g13 hG13 hgrd hged
                     have hbd := below_none hbi hgrd hbi.size)
                  | (with_reducible show wpList _ _ _ (⟨_, .store 35 _ _, _, _, _, _⟩ :: _) _ _
                     refine wpList_store_blk rfl 35 _ _ rfl g13 #[.int .i64 p1, .int .i64 p2] rfl rfl 35 _ hG13 info_pt rfl (by simp [Value.oneCell']) ?_
                     intro we hG13' hgre
                     have hbe := below_some hbd hgre hbd.size (by have := hbi.size; omega)
                     have hRe := hRb.below hbe
                     have e0 : we.cell? ⟨g6, b * 6, none⟩ = some (.int .i64 t1) := hRe.at_ dT (r := 0) rfl
                     have e1 : we.cell? ⟨g6, b * 6 + 1, none⟩ = some (.int .i64 t2) := hRe.at_ dT (r := 1) rfl
                     have e2 : we.cell? ⟨g6, b * 6 + 2, none⟩ = some (.int .i64 t3) := hRe.at_ dT (r := 2) rfl
                     have e3 : we.cell? ⟨g6, b * 6 + 3, none⟩ = some (.int .i64 t4) := hRe.at_ dT (r := 3) rfl
                     have e4 : we.cell? ⟨g6, b * 6 + 4, none⟩ = some (.int .i64 t5) := hRe.at_ dT (r := 4) rfl
                     have e5 : we.cell? ⟨g6, b * 6 + 5, none⟩ = some (.int .i64 t6) := hRe.at_ dT (r := 5) rfl))
                clear d0 d1 d2 d3 d4 d5 hI
                have h0 : Value.int .i64 ((C0 : Nat) : Int) = .int .i64 ((C0 + ROW i 0 : Nat) : Int) := by rw [hR0.out]; rfl
                go_loopw [11, 73] (fun u v wr => ∃ j : Nat, j ≤ 3 ∧ v = .int .i64 j ∧ u = .int .i64 ((C0 + ROW i j : Nat) : Int) ∧ Below we.heap.size we wr) (fun _ v _ => 3 - (intOf v).toNat)
                case atStart => exact ⟨0, by omega, rfl, h0, Below.refl _ _⟩
                case round =>
                  clear h0 e0 e1 e2 e3 e4 e5
                  obtain ⟨j, hj, rfl, rfl, hbj⟩ := hrel
                  obtain ⟨wf, rfl⟩ : ∃ x, x = wr := ⟨wr, rfl⟩
                  by_cases hltj : j < 3
                  · have hltji : (j : Int) < 3 := by omega
                    have hI := hIt.out j hltj
                    have hE := hEq2.out j
                    obtain ⟨hR1, hRle⟩ := hRC2.out j
                    obtain ⟨Q, hQ⟩ : ∃ p, PT j = p := ⟨_, rfl⟩
                    rw [hQ] at hI hE hR1
                    clear hQ
                    obtain ⟨q1, q2⟩ := Q
                    have hR2 : ROW i (j + 1) = ROW i j + if decide ((p1, p2) = (q1, q2)) = true then 1 else 0 := by rw [hR1]; simp
                    clear hR1
                    obtain ⟨d, hd⟩ : ∃ d, decide ((p1, p2) = (q1, q2)) = d := ⟨_, rfl⟩
                    rw [hd] at hE hR2
                    clear hd
                    have HR2 := Lib.hid hR2
                    clear hR2
                    obtain ⟨C, hC⟩ : ∃ x, C0 + ROW i j = x := ⟨_, rfl⟩
                    have hC20 : C ≤ 20 := by omega
                    have hCi : (C : Int) ≤ 20 := by omega
                    rw [hC]
                    have HC := Lib.hid hC
                    clear hC
                    have hG13f := hG13'.callee hbj
                    have f1 : wf.cell? ⟨g13, 0, none⟩ = some (.int .i64 p1) := hG13f.cell 0
                    have f2 : wf.cell? ⟨g13, 1, none⟩ = some (.int .i64 p2) := hG13f.cell 1
                    cases d with
                    | true =>
                      go_wp2_with (first
                        | (with_reducible show wpList _ _ _ (⟨_, .alloc 35, _, _, _, _⟩ :: _) _ _
                           refine wpList_alloc_blk rfl 35 rfl _ zero_pt ?_
                           intro wg g15 hG15 hgrg hgeg
                           have hbg := below_none hbj hgrg hbj.size
                           have hG13g := hG13f.none_ hgrg)
                        | (with_reducible show wpList _ _ _ (⟨_, .store 35 _ _, _, _, _, _⟩ :: _) _ _
                           refine wpList_store_blk rfl 35 _ _ rfl g15 #[.int .i64 q1, .int .i64 q2] rfl rfl 35 _ hG15 info_pt rfl (by simp [Value.oneCell']) ?_
                           intro wh hG15' hgrh
                           have hbh := below_some hbg hgrh hbg.size (by have := hbj.size; omega)
                           have hG13h := hG13g.some_ hgrh (by have := hG13f.lt; omega)
                           have k1 : wh.cell? ⟨g13, 0, none⟩ = some (.int .i64 p1) := hG13h.cell 0
                           have k2 : wh.cell? ⟨g13, 1, none⟩ = some (.int .i64 p2) := hG13h.cell 1
                           have k3 : wh.cell? ⟨g15, 0, none⟩ = some (.int .i64 q1) := hG15'.cell 0
                           have k4 : wh.cell? ⟨g15, 1, none⟩ = some (.int .i64 q2) := hG15'.cell 1))
                      go_roundw
                      case rel => exact ⟨j + 1, by omega, by go_num, by
                        have := HC.out
                        have h2 := HR2.out
                        rw [if_pos (by first | rfl | trivial)] at h2
                        rw [h2, show C0 + (ROW i j + 1) = C + 1 by omega]; go_num, hbh⟩
                      case measure => simp [intOf]; omega
                    | false =>
                      go_wp2_with (first
                        | (with_reducible show wpList _ _ _ (⟨_, .alloc 35, _, _, _, _⟩ :: _) _ _
                           refine wpList_alloc_blk rfl 35 rfl _ zero_pt ?_
                           intro wg g15 hG15 hgrg hgeg
                           have hbg := below_none hbj hgrg hbj.size
                           have hG13g := hG13f.none_ hgrg)
                        | (with_reducible show wpList _ _ _ (⟨_, .store 35 _ _, _, _, _, _⟩ :: _) _ _
                           refine wpList_store_blk rfl 35 _ _ rfl g15 #[.int .i64 q1, .int .i64 q2] rfl rfl 35 _ hG15 info_pt rfl (by simp [Value.oneCell']) ?_
                           intro wh hG15' hgrh
                           have hbh := below_some hbg hgrh hbg.size (by have := hbj.size; omega)
                           have hG13h := hG13g.some_ hgrh (by have := hG13f.lt; omega)
                           have k1 : wh.cell? ⟨g13, 0, none⟩ = some (.int .i64 p1) := hG13h.cell 0
                           have k2 : wh.cell? ⟨g13, 1, none⟩ = some (.int .i64 p2) := hG13h.cell 1
                           have k3 : wh.cell? ⟨g15, 0, none⟩ = some (.int .i64 q1) := hG15'.cell 0
                           have k4 : wh.cell? ⟨g15, 1, none⟩ = some (.int .i64 q2) := hG15'.cell 1))
                      go_roundw
                      case rel => exact ⟨j + 1, by omega, by go_num, by
                        have := HC.out
                        have h2 := HR2.out
                        rw [if_neg (by decide)] at h2
                        rw [h2, show C0 + (ROW i j + 0) = C by omega], hbh⟩
                      case measure => simp [intOf]; omega
                  · obtain rfl : j = 3 := by omega
                    go_wp2_with (fail)
                    go_roundw
                    case rel => exact ⟨i + 1, by omega, by go_num, by rw [HTCi.out], hbe.trans (hbj.mono hbe.size)⟩
                    case measure => simp [intOf]; omega
              · obtain rfl : i = 3 := by omega
                have hGc := hGb.callee hbi
                have hOc := hOb.callee hbi
                have hbc := hbb.trans (hbi.mono hbb.size)
                obtain ⟨C, hC⟩ : ∃ x, TOT 3 = x := ⟨_, rfl⟩
                rw [hC] at HROW ⊢
                clear hC
                have hne8 : vb.ownBlock ≠ some g8 := own_blk_ne hOc hGc (by decide)
                have hg8b : w3.heap.size ≤ g8 := hge4
                have e1 : wc.cell? ⟨g8, 1, none⟩ = some vb := hGc.cell 1
                have hlen9 : (tiesA T a ++ tieRow T a b).length ≤ 1000000000 := by
                  have h1 := tiesA_len T a
                  have h2 := tieRow_len T a b
                  have h3 : a * a ≤ 6 * 6 := Nat.mul_le_mul (by omega) (by omega)
                  rw [List.length_append]
                  omega
                by_cases hC2 : 2 ≤ C
                · have hC2i : (2 : Int) ≤ C := by omega
                  go_wp2_with (first
                    | (at_builtin
                       refine Ti.wpList_pushP rfl _ _ rfl rfl (OwnP_none hOc (World.grownBy_alloc wc _ none)) wc.heap.size 1 b a rfl (Blk.new wc _ _) hlen9 (by have := hbc.size; show _ ≤ (wc.heap.push _).size; simp; omega) ?_
                       intro v6 w6 hO6 hgr6
                       obtain ⟨Av, cv, hv6⟩ := Ti.OwnP.form hO6
                       obtain ⟨Nv, hNv⟩ : ∃ N, (tiesA T a ++ tieRow T a b ++ [(b, a)]).length = N := ⟨_, rfl⟩
                       rw [hNv] at hv6
                       clear hNv
                       subst hv6
                       have hG6 := (hGc.none_ (World.grownBy_alloc wc (.cells #[.int .i64 (b : Nat), .int .i64 (a : Nat)] 37) none)).grown hgr6 (fun e => hne8 e.symm)
                       have hb6 := (hbc.alloc hbc.size (.cells #[.int .i64 (b : Nat), .int .i64 (a : Nat)] 37)).grown hgr6 (by have := hbc.size; show _ ≤ (wc.heap.push _).size; simp; omega) (fun g hg => hOc.ge hg)
                       have e2 : w6.cell? ⟨g8, 1, none⟩ = some vb := hG6.cell 1
                       have e3 : w6.frozen? ⟨g8, 1, none⟩ = false := hG6.frozen 1))
                  have hGn := hG6.set_ 1 (.slice Av Nv cv)
                  have hOn : Ti.OwnP (w6.setCell ⟨g8, 1, none⟩ (.slice Av Nv cv)) w3.heap.size (.slice Av Nv cv) (tiesA T a ++ tieRow T a b ++ [(b, a)]) := hO6.keep fun k hk => Below.heap_setCell w6 _ _ k (fun e => own_blk_ne hO6 hG6 (by decide) (by rw [hk, e]))
                  have hbn := hb6.setCell (p := ⟨g8, 1, none⟩) hg8b (.slice Av Nv cv)
                  go_roundw
                  case rel => exact ⟨b + 1, .slice Av Nv cv, by omega, by go_num, hGn, by rw [HROW.out, if_pos hC2]; exact hOn, hbn⟩
                  case measure => simp [intOf]; omega
                · have hC2i : ¬ (2 : Int) ≤ C := by omega
                  go_wp2_with (fail)
                  go_roundw
                  case rel => exact ⟨b + 1, vb, by omega, by go_num, hGc, by rw [HROW.out, if_neg hC2, List.append_nil]; exact hOc, hbc⟩
                  case measure => simp [intOf]; omega
          · obtain rfl : b = a := by omega
            go_wp2_with (fail)
            go_roundw
            case rel => exact ⟨b + 1, vb, by omega, by go_num, hGb, by rw [tiesA]; exact hOb, hbb⟩
            case measure => simp [intOf]; omega
      · obtain rfl : a = m := by omega
        obtain ⟨At, ct, rfl, hTie⟩ := own_ties hOa
        rw [HTIES.out] at hTie hGa
        obtain ⟨D, hDD⟩ : ∃ D, Br.degW (Br.woodT a (ties T) (ties T).length) = D := ⟨_, rfl⟩
        have hdeg := Lib.hid (fun w' (h : Br.TieS w' At (ties T)) => Br.Degrees_deg a (ties T) HTREE.out At ct w' h)
        have hchk := Lib.hid (fun w' (h : Br.TieS w' At (ties T)) => Br.Check_ok a (ties T) HTREE.out At ct w' h)
        rw [hDD] at hdeg HKNOT
        obtain ⟨NT, hNT⟩ : ∃ N, (ties T).length = N := ⟨_, rfl⟩
        rw [hNT] at hdeg hchk hGa
        clear hDD hNT hOa
        have hPa := hP3.below hba
        go_wp2_with (first
          | (with_reducible show wpList _ _ _ (⟨some 96, .load 33 _, _, _, _, _⟩ :: _) _ _
             refine wpList_load_blk rfl 33 _ rfl g8 rfl 33 _ _ hGa Tryd.underlying33 rfl info_tree ?_)
          | (go_at_call 8; (with_reducible refine (hdeg.out _ hTie).mono ?_); rintro e wb ⟨⟨Ad, cd, rfl, hDr⟩, hbb⟩
             have hTieb := hTie.below hbb
             have hGb := hGa.callee hbb
             have hPb := hPa.below hbb)
          | (go_at_call 9; (with_reducible refine (hears.out _ _ _ hPb hc2).mono ?_); rintro e wc ⟨ve, rfl, hEo, hbc⟩
             have hTiec := hTieb.below hbc
             have hGc := hGb.callee hbc
             have hPc := hPb.below hbc
             have hDc := hDr.below hbc
             obtain ⟨Ae, ce, rfl, hspe, hEr⟩ := OwnI_reads hEo)
          | (with_reducible show wpList _ _ _ (⟨some 105, .load 33 _, _, _, _, _⟩ :: _) _ _
             refine wpList_load_blk rfl 33 _ rfl g8 rfl 33 _ _ hGc Tryd.underlying33 rfl info_tree ?_)
          | (go_at_call 10; (with_reducible refine (hchk.out _ hTiec).mono ?_); rintro e wd ⟨rfl, hbd⟩
             have hPd := hPc.below hbd
             have hDd := hDc.below (hbd.mono hbc.size)
             have hEd := hEr.below hbd
             have hRd := (((hR3.below hba).below hbb).below hbc).below hbd
             have hbw : Below w3.heap.size w3 wd := ((hba.trans (hbb.mono hba.size)).trans (hbc.mono (Nat.le_trans hba.size hbb.size))).trans (hbd.mono (Nat.le_trans (Nat.le_trans hba.size hbb.size) hbc.size))))
        have hszE : wc.heap.size ≤ wd.heap.size := hbd.size
        have hEL : (natL (ears o)).length ≤ 100 := by
          have := earsK_len o o.length
          rw [HL.out] at this
          have h2 : (ears o).length ≤ n := by rw [← HL.out]; exact earsK_len o o.length
          simp [natL]
          omega
        have hsz1 : wb.heap.size ≤ wd.heap.size := Nat.le_trans hbc.size hbd.size
        clear hTie hTieb hTiec hGa hGb hGc hPa hPb hPc hDr hDc hEr hEo hbb hbc hbd hdeg hchk hears
        go_loopw [125] (fun v wr => ∃ k : Nat, k ≤ a ∧ v = .int .i64 k ∧ Below wd.heap.size wd wr) (fun v _ => a - (intOf v).toNat)
        case atStart => exact ⟨0, by omega, rfl, Below.refl _ _⟩
        case round =>
          obtain ⟨k, hk, rfl, hbk⟩ := hrel
          obtain ⟨we, rfl⟩ : ∃ x, x = wr := ⟨wr, rfl⟩
          by_cases hltk : k < a
          · have hltki : (k : Int) < a := by omega
            have k0 : (0 : Int) ≤ k := by omega
            obtain ⟨ad, x, rfl, _, hcell, hx⟩ := (hDd.below (hbk.mono hsz1)).at_ hltk
            obtain ⟨y, hy, rfl⟩ := Bu.natI_at hx.out
            have hkn := HKNOT.out k hltk
            unfold knotB at hkn
            rw [List.getD_eq_getElem?_getD, hy, Option.getD_some, HTL.out, HL.out] at hkn
            simp only [Bool.and_eq_true, Bool.or_eq_true, decide_eq_true_eq] at hkn
            obtain ⟨hy3, hor⟩ := hkn
            have hy3i : ¬ (3 : Int) < y := by omega
            have HOR := Lib.hid hor
            clear hor hy hx
            by_cases hskip : y ≠ 1 ∧ 1 < a
            · have h1 : ((y : Int) != 1) = true := by simp; omega
              have h2 : (1 : Int) < a := by omega
              go_wp2_with (fail)
              go_roundw
              case rel => exact ⟨k + 1, by omega, by go_num, hbk⟩
              case measure => simp [intOf]; omega
            · have hany : (List.range n).any (cornB o (ears o) T k) = true := by
                rcases HOR.out with h | h
                · exfalso
                  simp at h
                  exact hskip h
                · exact h
              have HANY := Lib.hid hany
              clear hany HOR
              go_upto_region 38 with (fail)
              go_cut [138] from 132 to 138 (fun v wx => v = .bool false ∧ wx = we)
              case first =>
                by_cases h1 : y = 1
                · have h1b : ((y : Int) != 1) = false := by simp; omega
                  clear h1
                  go_wp2_with (fail)
                  go_meet
                  exact ⟨rfl, rfl⟩
                · have h1b : ((y : Int) != 1) = true := by simp; omega
                  have h2 : ¬ (1 : Int) < a := by omega
                  go_wp2_with (fail)
                  go_meet
                  exact ⟨rfl, rfl⟩
              case rest =>
              obtain ⟨rfl, hwx⟩ := hcut
              subst hwx
              go_wp2_with (fail)
              have hfn : Value.bool false = .bool ((List.range 0).any (cornB o (ears o) T k)) := rfl
              go_loopw [22, 141] (fun u v wr => ∃ i : Nat, i ≤ n ∧ v = .int .i64 i ∧ u = .bool ((List.range i).any (cornB o (ears o) T k)) ∧ Below wc.heap.size wc wr) (fun _ v _ => n - (intOf v).toNat)
              case atStart => exact ⟨0, by omega, rfl, hfn, Below.refl _ _⟩
              case round =>
                clear hfn
                obtain ⟨i, hi, rfl, rfl, hbi⟩ := hrel
                obtain ⟨wf, rfl⟩ : ∃ x, x = wr := ⟨wr, rfl⟩
                by_cases hlti : i < n
                · have hltii : (i : Int) < n := by omega
                  have i0 : (0 : Int) ≤ i := by omega
                  have hPf := (hPd.below hbk).below hbi
                  have hRf := (hRd.below hbk).below hbi
                  have hEf := (RInts.later hEd (by have := hbw.size; exact hszE) hbk).below (hbi.mono (Nat.le_trans hszE hbk.size))
                  have hp := get_at (o := o) (i := i) (by rw [HL.out]; exact hlti)
                  have hsnoc : (List.range (i + 1)).any (cornB o (ears o) T k) = ((List.range i).any (cornB o (ears o) T k) || cornB o (ears o) T k i) := by rw [List.range_succ, List.any_append]; simp
                  have hcorn : cornB o (ears o) T k i = ((ears o).contains i && in3 (triD T k) (at' o i) && (List.range a).all fun m => m == k || !in3 (triD T m) (at' o i)) := by unfold cornB; rw [HTL.out]
                  have hce := Lib.hid (fun w' (hb : Below wf.heap.size wf w') => cont_any (c := ce) (i : Int) w' hEL hspe (hEf.below (hb.mono (Nat.le_trans (Nat.le_trans hszE hbk.size) hbi.size))))
                  obtain ⟨P, hP⟩ : ∃ p, at' o i = p := ⟨_, rfl⟩
                  rw [hP] at hp hcorn
                  clear hP
                  have hct := Lib.hid (fun w' (hb : Below wf.heap.size wf w') q (hq : q < a) => contains2_ok g6 (q * 6) 3 3 (triL (triD T q)) P rfl (by decide) w' (tri_part (hRf.below hb) (tri_get (by rw [HTL.out]; exact hq))))
                  rw [hcorn] at hsnoc
                  clear hcorn
                  rw [natL_contains] at hce
                  obtain ⟨e1, he1⟩ : ∃ e, (ears o).contains i = e := ⟨_, rfl⟩
                  rw [he1] at hce hsnoc
                  clear he1
                  obtain ⟨F, hF⟩ : ∃ e, (List.range i).any (cornB o (ears o) T k) = e := ⟨_, rfl⟩
                  rw [hF] at hsnoc ⊢
                  clear hF
                  obtain ⟨e2, he2⟩ : ∃ e, in3 (triD T k) P = e := ⟨_, rfl⟩
                  have hct2 := Lib.hid (fun w' hb' => hct.out w' hb' k hltk)
                  rw [tri_mem, he2] at hct2
                  rw [he2] at hsnoc
                  clear he2
                  have HSN := Lib.hid hsnoc
                  clear hsnoc
                  obtain ⟨gP, rfl, p0, p1⟩ := hPf.at_ hp
                  clear hp
                  obtain ⟨P1, P2⟩ := P
                  go_wp2_with (first
                    | (with_reducible show wpList _ _ _ (⟨_, .alloc 35, _, _, _, _⟩ :: _) _ _
                       refine wpList_alloc_blk rfl 35 rfl _ zero_pt ?_
                       intro wg g24 hG24 hgrg hgeg
                       have hbg := below_none (Below.refl wf.heap.size wf) hgrg (Nat.le_refl _))
                    | (with_reducible show wpList _ _ _ (⟨_, .store 35 _ _, _, _, _, _⟩ :: _) _ _
                       refine wpList_store_blk rfl 35 _ _ rfl g24 #[.int .i64 P1, .int .i64 P2] rfl rfl 35 _ hG24 info_pt rfl (by simp [Value.oneCell']) ?_
                       intro wh hG24' hgrh
                       have hbh := below_some hbg hgrh hbg.size hgeg))
                  clear p0 p1
                  have hbih := hbi.trans (hbh.mono hbi.size)
                  have hC : Hid (∀ w', Below wh.drew.heap.size wh.drew w' → w'.cell? ⟨g24, 0, none⟩ = some (.int .i64 P1) ∧ w'.cell? ⟨g24, 1, none⟩ = some (.int .i64 P2)) := fun w' hw => by
                    have hB := hG24'.drew.callee hw
                    exact ⟨hB.cell 0, hB.cell 1⟩
                  have hce2 : Hid (∀ w', Below wh.drew.heap.size wh.drew w' → Calls Tryd.prog 11 #[.slice Ae (natL (ears o)).length ce, .int .i64 i] w' fun e w'' => e = .returned (.bool e1) ∧ Below w'.heap.size w' w'') := fun w' hw => hce.out w' (hbh.trans ((drew_up hw).mono hbh.size))
                  have hct3 : Hid (∀ w', Below wh.drew.heap.size wh.drew w' → Calls Tryd.prog 12 #[.slice (some ⟨g6, k * 6, none⟩) 3 3, ptV (P1, P2)] w' fun e w'' => e = .returned (.bool e2) ∧ Below w'.heap.size w' w'') := fun w' hw => hct2.out w' (hbh.trans ((drew_up hw).mono hbh.size))
                  cases e1 with
                  | false =>
                    refine De.region_det (by kernel_rfl) (by kernel_rfl) ?_
                    refine De.Det.read (o := ?o1) (v := ?v1) 0 ?q1 (by kernel_rfl) (by kernel_rfl) ?w1 ?y1 ?h1
                    case q1 => (simp only [List.getElem?_toArray, List.getElem?_cons_succ, List.getElem?_cons_zero]; rfl)
                    case w1 => kernel_rfl
                    case y1 => (intro w' hw'; obtain ⟨c1, c2⟩ := hC.out w' hw'; go_simp; (try with_reducible rfl))
                    (try simp only [Act.put, List.setIfInBounds_toArray, List.set_cons_zero, List.set_cons_succ])
                    refine De.Det.read (o := ?o2) (v := ?v2) 1 ?q2 (by kernel_rfl) (by kernel_rfl) ?w2 ?y2 ?h2
                    case q2 => (simp only [List.getElem?_toArray, List.getElem?_cons_succ, List.getElem?_cons_zero]; rfl)
                    case w2 => kernel_rfl
                    case y2 => (intro w' hw'; obtain ⟨c1, c2⟩ := hC.out w' hw'; go_simp; (try with_reducible rfl))
                    (try simp only [Act.put, List.setIfInBounds_toArray, List.set_cons_zero, List.set_cons_succ])
                    refine De.Det.call (o := ?o3) (v := ?v3) (f := ?f3) (args := ?g3) 2 ?q3 (by kernel_rfl) (by kernel_rfl) ?w3 ?e3 ?c3 ?h3
                    case q3 => (simp only [List.getElem?_toArray, List.getElem?_cons_succ, List.getElem?_cons_zero]; rfl)
                    case w3 => kernel_rfl
                    case e3 => (intro w'; go_simp; refine ⟨?_, ?_⟩ <;> with_reducible rfl)
                    case c3 => (intro w' hw'; exact (hce2.out w' hw'))
                    (try simp only [Act.put, List.setIfInBounds_toArray, List.set_cons_zero, List.set_cons_succ])
                    refine De.Det.read (o := ?o4) (v := ?v4) 3 ?q4 (by kernel_rfl) (by kernel_rfl) ?w4 ?y4 ?h4
                    case q4 => (simp only [List.getElem?_toArray, List.getElem?_cons_succ, List.getElem?_cons_zero]; rfl)
                    case w4 => kernel_rfl
                    case y4 => (intro w' hw'; obtain ⟨c1, c2⟩ := hC.out w' hw'; go_simp; (try with_reducible rfl))
                    (try simp only [Act.put, List.setIfInBounds_toArray, List.set_cons_zero, List.set_cons_succ])
                    refine De.Det.read (o := ?o5) (v := ?v5) 4 ?q5 (by kernel_rfl) (by kernel_rfl) ?w5 ?y5 ?h5
                    case q5 => (simp only [List.getElem?_toArray, List.getElem?_cons_succ, List.getElem?_cons_zero]; rfl)
                    case w5 => kernel_rfl
                    case y5 => (intro w' hw'; obtain ⟨c1, c2⟩ := hC.out w' hw'; go_simp; (try with_reducible rfl))
                    (try simp only [Act.put, List.setIfInBounds_toArray, List.set_cons_zero, List.set_cons_succ])
                    refine De.Det.skip (o := ?o6) 5 ?q6 (by kernel_rfl) (by kernel_rfl) ?w6 ?h6
                    case q6 => (simp only [List.getElem?_toArray, List.getElem?_cons_succ, List.getElem?_cons_zero]; rfl)
                    case w6 => kernel_rfl
                    (try simp only [Act.put, List.setIfInBounds_toArray, List.set_cons_zero, List.set_cons_succ])
                    refine De.Det.skip (o := ?o7) 6 ?q7 (by kernel_rfl) (by kernel_rfl) ?w7 ?h7
                    case q7 => (simp only [List.getElem?_toArray, List.getElem?_cons_succ, List.getElem?_cons_zero]; rfl)
                    case w7 => kernel_rfl
                    (try simp only [Act.put, List.setIfInBounds_toArray, List.set_cons_zero, List.set_cons_succ])
                    refine De.Det.skip (o := ?o8) 7 ?q8 (by kernel_rfl) (by kernel_rfl) ?w8 ?h8
                    case q8 => (simp only [List.getElem?_toArray, List.getElem?_cons_succ, List.getElem?_cons_zero]; rfl)
                    case w8 => kernel_rfl
                    (try simp only [Act.put, List.setIfInBounds_toArray, List.set_cons_zero, List.set_cons_succ])
                    refine De.Det.skip (o := ?o9) 8 ?q9 (by kernel_rfl) (by kernel_rfl) ?w9 ?h9
                    case q9 => (simp only [List.getElem?_toArray, List.getElem?_cons_succ, List.getElem?_cons_zero]; rfl)
                    case w9 => kernel_rfl
                    (try simp only [Act.put, List.setIfInBounds_toArray, List.set_cons_zero, List.set_cons_succ])
                    refine De.Det.skip (o := ?o10) 9 ?q10 (by kernel_rfl) (by kernel_rfl) ?w10 ?h10
                    case q10 => (simp only [List.getElem?_toArray, List.getElem?_cons_succ, List.getElem?_cons_zero]; rfl)
                    case w10 => kernel_rfl
                    (try simp only [Act.put, List.setIfInBounds_toArray, List.set_cons_zero, List.set_cons_succ])
                    refine De.Det.skip (o := ?o11) 10 ?q11 (by kernel_rfl) (by kernel_rfl) ?w11 ?h11
                    case q11 => (simp only [List.getElem?_toArray, List.getElem?_cons_succ, List.getElem?_cons_zero]; rfl)
                    case w11 => kernel_rfl
                    (try simp only [Act.put, List.setIfInBounds_toArray, List.set_cons_zero, List.set_cons_succ])
                    refine De.Det.skip (o := ?o12) 11 ?q12 (by kernel_rfl) (by kernel_rfl) ?w12 ?h12
                    case q12 => (simp only [List.getElem?_toArray, List.getElem?_cons_succ, List.getElem?_cons_zero]; rfl)
                    case w12 => kernel_rfl
                    (try simp only [Act.put, List.setIfInBounds_toArray, List.set_cons_zero, List.set_cons_succ])
                    refine De.Det.read (o := ?o13) (v := ?v13) 12 ?q13 (by kernel_rfl) (by kernel_rfl) ?w13 ?y13 ?h13
                    case q13 => (simp only [List.getElem?_toArray, List.getElem?_cons_succ, List.getElem?_cons_zero]; rfl)
                    case w13 => kernel_rfl
                    case y13 => (intro w' hw'; obtain ⟨c1, c2⟩ := hC.out w' hw'; go_simp; (try with_reducible rfl))
                    (try simp only [Act.put, List.setIfInBounds_toArray, List.set_cons_zero, List.set_cons_succ])
                    refine De.Det.base ?_
                    refine De.Det2.done (by kernel_rfl) ?_
                    rintro wj ⟨hb_wj, hO_wj⟩
                    clear hO_wj
                    have hbj := hbih.trans ((drew_up hb_wj).mono hbih.size)
                    go_wp2_with (fail)
                    go_roundw
                    case rel => exact ⟨i + 1, by omega, by go_num, by rw [HSN.out]; simp, hbj⟩
                    case measure => simp [intOf]; omega
                  | true =>
                    refine De.region_det (by kernel_rfl) (by kernel_rfl) ?_
                    refine De.Det.read (o := ?o14) (v := ?v14) 0 ?q14 (by kernel_rfl) (by kernel_rfl) ?w14 ?y14 ?h14
                    case q14 => (simp only [List.getElem?_toArray, List.getElem?_cons_succ, List.getElem?_cons_zero]; rfl)
                    case w14 => kernel_rfl
                    case y14 => (intro w' hw'; obtain ⟨c1, c2⟩ := hC.out w' hw'; go_simp; (try with_reducible rfl))
                    (try simp only [Act.put, List.setIfInBounds_toArray, List.set_cons_zero, List.set_cons_succ])
                    refine De.Det.read (o := ?o15) (v := ?v15) 1 ?q15 (by kernel_rfl) (by kernel_rfl) ?w15 ?y15 ?h15
                    case q15 => (simp only [List.getElem?_toArray, List.getElem?_cons_succ, List.getElem?_cons_zero]; rfl)
                    case w15 => kernel_rfl
                    case y15 => (intro w' hw'; obtain ⟨c1, c2⟩ := hC.out w' hw'; go_simp; (try with_reducible rfl))
                    (try simp only [Act.put, List.setIfInBounds_toArray, List.set_cons_zero, List.set_cons_succ])
                    refine De.Det.call (o := ?o16) (v := ?v16) (f := ?f16) (args := ?g16) 2 ?q16 (by kernel_rfl) (by kernel_rfl) ?w16 ?e16 ?c16 ?h16
                    case q16 => (simp only [List.getElem?_toArray, List.getElem?_cons_succ, List.getElem?_cons_zero]; rfl)
                    case w16 => kernel_rfl
                    case e16 => (intro w'; go_simp; refine ⟨?_, ?_⟩ <;> with_reducible rfl)
                    case c16 => (intro w' hw'; exact (hce2.out w' hw'))
                    (try simp only [Act.put, List.setIfInBounds_toArray, List.set_cons_zero, List.set_cons_succ])
                    refine De.Det.read (o := ?o17) (v := ?v17) 3 ?q17 (by kernel_rfl) (by kernel_rfl) ?w17 ?y17 ?h17
                    case q17 => (simp only [List.getElem?_toArray, List.getElem?_cons_succ, List.getElem?_cons_zero]; rfl)
                    case w17 => kernel_rfl
                    case y17 => (intro w' hw'; obtain ⟨c1, c2⟩ := hC.out w' hw'; go_simp; (try with_reducible rfl))
                    (try simp only [Act.put, List.setIfInBounds_toArray, List.set_cons_zero, List.set_cons_succ])
                    refine De.Det.read (o := ?o18) (v := ?v18) 4 ?q18 (by kernel_rfl) (by kernel_rfl) ?w18 ?y18 ?h18
                    case q18 => (simp only [List.getElem?_toArray, List.getElem?_cons_succ, List.getElem?_cons_zero]; rfl)
                    case w18 => kernel_rfl
                    case y18 => (intro w' hw'; obtain ⟨c1, c2⟩ := hC.out w' hw'; go_simp; (try with_reducible rfl))
                    (try simp only [Act.put, List.setIfInBounds_toArray, List.set_cons_zero, List.set_cons_succ])
                    refine De.Det.read (o := ?o19) (v := ?v19) 5 ?q19 (by kernel_rfl) (by kernel_rfl) ?w19 ?y19 ?h19
                    case q19 => (simp only [List.getElem?_toArray, List.getElem?_cons_succ, List.getElem?_cons_zero]; rfl)
                    case w19 => kernel_rfl
                    case y19 => (intro w' hw'; obtain ⟨c1, c2⟩ := hC.out w' hw'; go_simp; (try with_reducible rfl))
                    (try simp only [Act.put, List.setIfInBounds_toArray, List.set_cons_zero, List.set_cons_succ])
                    refine De.Det.read (o := ?o20) (v := ?v20) 6 ?q20 (by kernel_rfl) (by kernel_rfl) ?w20 ?y20 ?h20
                    case q20 => (simp only [List.getElem?_toArray, List.getElem?_cons_succ, List.getElem?_cons_zero]; rfl)
                    case w20 => kernel_rfl
                    case y20 => (intro w' hw'; obtain ⟨c1, c2⟩ := hC.out w' hw'; go_simp; (try with_reducible rfl))
                    (try simp only [Act.put, List.setIfInBounds_toArray, List.set_cons_zero, List.set_cons_succ])
                    refine De.Det.read (o := ?o21) (v := ?v21) 7 ?q21 (by kernel_rfl) (by kernel_rfl) ?w21 ?y21 ?h21
                    case q21 => (simp only [List.getElem?_toArray, List.getElem?_cons_succ, List.getElem?_cons_zero]; rfl)
                    case w21 => kernel_rfl
                    case y21 => (intro w' hw'; obtain ⟨c1, c2⟩ := hC.out w' hw'; go_simp; (try with_reducible rfl))
                    (try simp only [Act.put, List.setIfInBounds_toArray, List.set_cons_zero, List.set_cons_succ])
                    refine De.Det.read (o := ?o22) (v := ?v22) 8 ?q22 (by kernel_rfl) (by kernel_rfl) ?w22 ?y22 ?h22
                    case q22 => (simp only [List.getElem?_toArray, List.getElem?_cons_succ, List.getElem?_cons_zero]; rfl)
                    case w22 => kernel_rfl
                    case y22 => (intro w' hw'; obtain ⟨c1, c2⟩ := hC.out w' hw'; go_simp; (try with_reducible rfl))
                    (try simp only [Act.put, List.setIfInBounds_toArray, List.set_cons_zero, List.set_cons_succ])
                    refine De.Det.read (o := ?o23) (v := ?v23) 9 ?q23 (by kernel_rfl) (by kernel_rfl) ?w23 ?y23 ?h23
                    case q23 => (simp only [List.getElem?_toArray, List.getElem?_cons_succ, List.getElem?_cons_zero]; rfl)
                    case w23 => kernel_rfl
                    case y23 => (intro w' hw'; obtain ⟨c1, c2⟩ := hC.out w' hw'; go_simp; (try with_reducible rfl))
                    (try simp only [Act.put, List.setIfInBounds_toArray, List.set_cons_zero, List.set_cons_succ])
                    refine De.Det.call (o := ?o24) (v := ?v24) (f := ?f24) (args := ?g24) 10 ?q24 (by kernel_rfl) (by kernel_rfl) ?w24 ?e24 ?c24 ?h24
                    case q24 => (simp only [List.getElem?_toArray, List.getElem?_cons_succ, List.getElem?_cons_zero]; rfl)
                    case w24 => kernel_rfl
                    case e24 => (intro w'; go_simp; refine ⟨?_, ?_⟩ <;> with_reducible rfl)
                    case c24 => (intro w' hw'; exact (hct3.out w' hw'))
                    (try simp only [Act.put, List.setIfInBounds_toArray, List.set_cons_zero, List.set_cons_succ])
                    refine De.Det.read (o := ?o25) (v := ?v25) 11 ?q25 (by kernel_rfl) (by kernel_rfl) ?w25 ?y25 ?h25
                    case q25 => (simp only [List.getElem?_toArray, List.getElem?_cons_succ, List.getElem?_cons_zero]; rfl)
                    case w25 => kernel_rfl
                    case y25 => (intro w' hw'; obtain ⟨c1, c2⟩ := hC.out w' hw'; go_simp; (try with_reducible rfl))
                    (try simp only [Act.put, List.setIfInBounds_toArray, List.set_cons_zero, List.set_cons_succ])
                    refine De.Det.read (o := ?o26) (v := ?v26) 12 ?q26 (by kernel_rfl) (by kernel_rfl) ?w26 ?y26 ?h26
                    case q26 => (simp only [List.getElem?_toArray, List.getElem?_cons_succ, List.getElem?_cons_zero]; rfl)
                    case w26 => kernel_rfl
                    case y26 => (intro w' hw'; obtain ⟨c1, c2⟩ := hC.out w' hw'; go_simp; (try with_reducible rfl))
                    (try simp only [Act.put, List.setIfInBounds_toArray, List.set_cons_zero, List.set_cons_succ])
                    refine De.Det.base ?_
                    refine De.Det2.done (by kernel_rfl) ?_
                    rintro wj ⟨hb_wj, hO_wj⟩
                    clear hO_wj
                    have hbj := hbih.trans ((drew_up hb_wj).mono hbih.size)
                    have hbhj := hbh.trans ((drew_up hb_wj).mono hbh.size)
                    have hG24j := hG24'.drew.callee hb_wj
                    clear hC hce2 hct3
                    cases e2 with
                    | false =>
                      go_wp2_with (fail)
                      go_roundw
                      case rel => exact ⟨i + 1, by omega, by go_num, by rw [HSN.out]; simp, hbj⟩
                      case measure => simp [intOf]; omega
                    | true =>
                    go_wp2_with (fail)
                    have hA0 : Value.bool true = .bool ((List.range 0).all fun m => m == k || !in3 (triD T m) (P1, P2)) := rfl
                    go_loopw [25, 161] (fun u v wr => ∃ q : Nat, q ≤ a ∧ v = .int .i64 q ∧ u = .bool ((List.range q).all fun m => m == k || !in3 (triD T m) (P1, P2)) ∧ Below wj.heap.size wj wr) (fun _ v _ => a - (intOf v).toNat)
                    case atStart => exact ⟨0, by omega, rfl, hA0, Below.refl _ _⟩
                    case round =>
                      clear hA0
                      obtain ⟨q, hq, rfl, rfl, hbq⟩ := hrel
                      obtain ⟨wq, rfl⟩ : ∃ x, x = wr := ⟨wr, rfl⟩
                      have hbjq := hbj.trans (hbq.mono hbj.size)
                      by_cases hltq : q < a
                      · have hltqi : (q : Int) < a := by omega
                        have q0 : (0 : Int) ≤ q := by omega
                        have hall : ((List.range (q + 1)).all fun m => m == k || !in3 (triD T m) (P1, P2)) = (((List.range q).all fun m => m == k || !in3 (triD T m) (P1, P2)) && (q == k || !in3 (triD T q) (P1, P2))) := by rw [List.range_succ, List.all_append]; simp
                        have hbhq := hbhj.trans (hbq.mono hbhj.size)
                        have hctq : Hid (∀ w', Below wq.drew.heap.size wq.drew w' → Calls Tryd.prog 12 #[.slice (some ⟨g6, q * 6, none⟩) 3 3, ptV (P1, P2)] w' fun e w'' => e = .returned (.bool (in3 (triD T q) (P1, P2))) ∧ Below w'.heap.size w' w'') := fun w' hw => by
                          have := hct.out w' (hbhq.trans ((drew_up hw).mono hbhq.size)) q hltq
                          rw [tri_mem] at this
                          exact this
                        obtain ⟨b3, hb3'⟩ : ∃ x, in3 (triD T q) (P1, P2) = x := ⟨_, rfl⟩
                        rw [hb3'] at hctq hall
                        obtain ⟨al, hal⟩ : ∃ x, ((List.range q).all fun m => m == k || !in3 (triD T m) (P1, P2)) = x := ⟨_, rfl⟩
                        rw [hal] at hall ⊢
                        clear hb3' hal
                        have HALL := Lib.hid hall
                        clear hall
                        have hG24q := hG24j.callee hbq
                        have hC : Hid (∀ w', Below wq.drew.heap.size wq.drew w' → w'.cell? ⟨g24, 0, none⟩ = some (.int .i64 P1) ∧ w'.cell? ⟨g24, 1, none⟩ = some (.int .i64 P2)) := fun w' hw => by
                          have hB := hG24q.drew.callee hw
                          exact ⟨hB.cell 0, hB.cell 1⟩
                        go_wp2_with (fail)
                        cases al with
                        | false =>
                          refine De.region_det (by kernel_rfl) (by kernel_rfl) ?_
                          refine De.Det.read (o := ?o27) (v := ?v27) 0 ?q27 (by kernel_rfl) (by kernel_rfl) ?w27 ?y27 ?h27
                          case q27 => (simp only [List.getElem?_toArray, List.getElem?_cons_succ, List.getElem?_cons_zero]; rfl)
                          case w27 => kernel_rfl
                          case y27 => (intro w' hw'; obtain ⟨c1, c2⟩ := hC.out w' hw'; go_simp; (try with_reducible rfl))
                          (try simp only [Act.put, List.setIfInBounds_toArray, List.set_cons_zero, List.set_cons_succ])
                          refine De.Det.read (o := ?o28) (v := ?v28) 1 ?q28 (by kernel_rfl) (by kernel_rfl) ?w28 ?y28 ?h28
                          case q28 => (simp only [List.getElem?_toArray, List.getElem?_cons_succ, List.getElem?_cons_zero]; rfl)
                          case w28 => kernel_rfl
                          case y28 => (intro w' hw'; obtain ⟨c1, c2⟩ := hC.out w' hw'; go_simp; (try with_reducible rfl))
                          (try simp only [Act.put, List.setIfInBounds_toArray, List.set_cons_zero, List.set_cons_succ])
                          refine De.Det.skip (o := ?o29) 2 ?q29 (by kernel_rfl) (by kernel_rfl) ?w29 ?h29
                          case q29 => (simp only [List.getElem?_toArray, List.getElem?_cons_succ, List.getElem?_cons_zero]; rfl)
                          case w29 => kernel_rfl
                          (try simp only [Act.put, List.setIfInBounds_toArray, List.set_cons_zero, List.set_cons_succ])
                          refine De.Det.skip (o := ?o30) 3 ?q30 (by kernel_rfl) (by kernel_rfl) ?w30 ?h30
                          case q30 => (simp only [List.getElem?_toArray, List.getElem?_cons_succ, List.getElem?_cons_zero]; rfl)
                          case w30 => kernel_rfl
                          (try simp only [Act.put, List.setIfInBounds_toArray, List.set_cons_zero, List.set_cons_succ])
                          refine De.Det.skip (o := ?o31) 4 ?q31 (by kernel_rfl) (by kernel_rfl) ?w31 ?h31
                          case q31 => (simp only [List.getElem?_toArray, List.getElem?_cons_succ, List.getElem?_cons_zero]; rfl)
                          case w31 => kernel_rfl
                          (try simp only [Act.put, List.setIfInBounds_toArray, List.set_cons_zero, List.set_cons_succ])
                          refine De.Det.skip (o := ?o32) 5 ?q32 (by kernel_rfl) (by kernel_rfl) ?w32 ?h32
                          case q32 => (simp only [List.getElem?_toArray, List.getElem?_cons_succ, List.getElem?_cons_zero]; rfl)
                          case w32 => kernel_rfl
                          (try simp only [Act.put, List.setIfInBounds_toArray, List.set_cons_zero, List.set_cons_succ])
                          refine De.Det.skip (o := ?o33) 6 ?q33 (by kernel_rfl) (by kernel_rfl) ?w33 ?h33
                          case q33 => (simp only [List.getElem?_toArray, List.getElem?_cons_succ, List.getElem?_cons_zero]; rfl)
                          case w33 => kernel_rfl
                          (try simp only [Act.put, List.setIfInBounds_toArray, List.set_cons_zero, List.set_cons_succ])
                          refine De.Det.skip (o := ?o34) 7 ?q34 (by kernel_rfl) (by kernel_rfl) ?w34 ?h34
                          case q34 => (simp only [List.getElem?_toArray, List.getElem?_cons_succ, List.getElem?_cons_zero]; rfl)
                          case w34 => kernel_rfl
                          (try simp only [Act.put, List.setIfInBounds_toArray, List.set_cons_zero, List.set_cons_succ])
                          refine De.Det.skip (o := ?o35) 8 ?q35 (by kernel_rfl) (by kernel_rfl) ?w35 ?h35
                          case q35 => (simp only [List.getElem?_toArray, List.getElem?_cons_succ, List.getElem?_cons_zero]; rfl)
                          case w35 => kernel_rfl
                          (try simp only [Act.put, List.setIfInBounds_toArray, List.set_cons_zero, List.set_cons_succ])
                          refine De.Det.skip (o := ?o36) 9 ?q36 (by kernel_rfl) (by kernel_rfl) ?w36 ?h36
                          case q36 => (simp only [List.getElem?_toArray, List.getElem?_cons_succ, List.getElem?_cons_zero]; rfl)
                          case w36 => kernel_rfl
                          (try simp only [Act.put, List.setIfInBounds_toArray, List.set_cons_zero, List.set_cons_succ])
                          refine De.Det.skip (o := ?o37) 10 ?q37 (by kernel_rfl) (by kernel_rfl) ?w37 ?h37
                          case q37 => (simp only [List.getElem?_toArray, List.getElem?_cons_succ, List.getElem?_cons_zero]; rfl)
                          case w37 => kernel_rfl
                          (try simp only [Act.put, List.setIfInBounds_toArray, List.set_cons_zero, List.set_cons_succ])
                          refine De.Det.skip (o := ?o38) 11 ?q38 (by kernel_rfl) (by kernel_rfl) ?w38 ?h38
                          case q38 => (simp only [List.getElem?_toArray, List.getElem?_cons_succ, List.getElem?_cons_zero]; rfl)
                          case w38 => kernel_rfl
                          (try simp only [Act.put, List.setIfInBounds_toArray, List.set_cons_zero, List.set_cons_succ])
                          refine De.Det.skip (o := ?o39) 12 ?q39 (by kernel_rfl) (by kernel_rfl) ?w39 ?h39
                          case q39 => (simp only [List.getElem?_toArray, List.getElem?_cons_succ, List.getElem?_cons_zero]; rfl)
                          case w39 => kernel_rfl
                          (try simp only [Act.put, List.setIfInBounds_toArray, List.set_cons_zero, List.set_cons_succ])
                          refine De.Det.skip (o := ?o40) 13 ?q40 (by kernel_rfl) (by kernel_rfl) ?w40 ?h40
                          case q40 => (simp only [List.getElem?_toArray, List.getElem?_cons_succ, List.getElem?_cons_zero]; rfl)
                          case w40 => kernel_rfl
                          (try simp only [Act.put, List.setIfInBounds_toArray, List.set_cons_zero, List.set_cons_succ])
                          refine De.Det.read (o := ?o41) (v := ?v41) 14 ?q41 (by kernel_rfl) (by kernel_rfl) ?w41 ?y41 ?h41
                          case q41 => (simp only [List.getElem?_toArray, List.getElem?_cons_succ, List.getElem?_cons_zero]; rfl)
                          case w41 => kernel_rfl
                          case y41 => (intro w' hw'; obtain ⟨c1, c2⟩ := hC.out w' hw'; go_simp; (try with_reducible rfl))
                          (try simp only [Act.put, List.setIfInBounds_toArray, List.set_cons_zero, List.set_cons_succ])
                          refine De.Det.read (o := ?o42) (v := ?v42) 15 ?q42 (by kernel_rfl) (by kernel_rfl) ?w42 ?y42 ?h42
                          case q42 => (simp only [List.getElem?_toArray, List.getElem?_cons_succ, List.getElem?_cons_zero]; rfl)
                          case w42 => kernel_rfl
                          case y42 => (intro w' hw'; obtain ⟨c1, c2⟩ := hC.out w' hw'; go_simp; (try with_reducible rfl))
                          (try simp only [Act.put, List.setIfInBounds_toArray, List.set_cons_zero, List.set_cons_succ])
                          refine De.Det.base ?_
                          refine De.Det2.done (by kernel_rfl) ?_
                          rintro wt ⟨hb_wt, hO_wt⟩
                          clear hO_wt
                          go_wp2_with (fail)
                          go_roundw
                          case rel => exact ⟨q + 1, by omega, by go_num, by rw [HALL.out]; rfl, hbq.trans ((drew_up hb_wt).mono hbq.size)⟩
                          case measure => simp [intOf]; omega
                        | true =>
                          by_cases hqk : q = k
                          · have hqk2 : ((q : Int) == (k : Int)) = true := by simp [hqk]
                            have hqk3 : (q == k) = true := by simp [hqk]
                            rw [hqk3] at HALL
                            clear hqk hqk3
                            refine De.region_det (by kernel_rfl) (by kernel_rfl) ?_
                            refine De.Det.read (o := ?o43) (v := ?v43) 0 ?q43 (by kernel_rfl) (by kernel_rfl) ?w43 ?y43 ?h43
                            case q43 => (simp only [List.getElem?_toArray, List.getElem?_cons_succ, List.getElem?_cons_zero]; rfl)
                            case w43 => kernel_rfl
                            case y43 => (intro w' hw'; obtain ⟨c1, c2⟩ := hC.out w' hw'; go_simp; (try with_reducible rfl))
                            (try simp only [Act.put, List.setIfInBounds_toArray, List.set_cons_zero, List.set_cons_succ])
                            refine De.Det.read (o := ?o44) (v := ?v44) 1 ?q44 (by kernel_rfl) (by kernel_rfl) ?w44 ?y44 ?h44
                            case q44 => (simp only [List.getElem?_toArray, List.getElem?_cons_succ, List.getElem?_cons_zero]; rfl)
                            case w44 => kernel_rfl
                            case y44 => (intro w' hw'; obtain ⟨c1, c2⟩ := hC.out w' hw'; go_simp; (try with_reducible rfl))
                            (try simp only [Act.put, List.setIfInBounds_toArray, List.set_cons_zero, List.set_cons_succ])
                            refine De.Det.read (o := ?o45) (v := ?v45) 2 ?q45 (by kernel_rfl) (by kernel_rfl) ?w45 ?y45 ?h45
                            case q45 => (simp only [List.getElem?_toArray, List.getElem?_cons_succ, List.getElem?_cons_zero]; rfl)
                            case w45 => kernel_rfl
                            case y45 => (intro w' hw'; obtain ⟨c1, c2⟩ := hC.out w' hw'; go_simp; (try with_reducible rfl))
                            (try simp only [Act.put, List.setIfInBounds_toArray, List.set_cons_zero, List.set_cons_succ])
                            refine De.Det.read (o := ?o46) (v := ?v46) 3 ?q46 (by kernel_rfl) (by kernel_rfl) ?w46 ?y46 ?h46
                            case q46 => (simp only [List.getElem?_toArray, List.getElem?_cons_succ, List.getElem?_cons_zero]; rfl)
                            case w46 => kernel_rfl
                            case y46 => (intro w' hw'; obtain ⟨c1, c2⟩ := hC.out w' hw'; go_simp; (try with_reducible rfl))
                            (try simp only [Act.put, List.setIfInBounds_toArray, List.set_cons_zero, List.set_cons_succ])
                            refine De.Det.read (o := ?o47) (v := ?v47) 4 ?q47 (by kernel_rfl) (by kernel_rfl) ?w47 ?y47 ?h47
                            case q47 => (simp only [List.getElem?_toArray, List.getElem?_cons_succ, List.getElem?_cons_zero]; rfl)
                            case w47 => kernel_rfl
                            case y47 => (intro w' hw'; obtain ⟨c1, c2⟩ := hC.out w' hw'; go_simp; (try with_reducible rfl))
                            (try simp only [Act.put, List.setIfInBounds_toArray, List.set_cons_zero, List.set_cons_succ])
                            refine De.Det.read (o := ?o48) (v := ?v48) 5 ?q48 (by kernel_rfl) (by kernel_rfl) ?w48 ?y48 ?h48
                            case q48 => (simp only [List.getElem?_toArray, List.getElem?_cons_succ, List.getElem?_cons_zero]; rfl)
                            case w48 => kernel_rfl
                            case y48 => (intro w' hw'; obtain ⟨c1, c2⟩ := hC.out w' hw'; go_simp; (try with_reducible rfl))
                            (try simp only [Act.put, List.setIfInBounds_toArray, List.set_cons_zero, List.set_cons_succ])
                            refine De.Det.skip (o := ?o49) 6 ?q49 (by kernel_rfl) (by kernel_rfl) ?w49 ?h49
                            case q49 => (simp only [List.getElem?_toArray, List.getElem?_cons_succ, List.getElem?_cons_zero]; rfl)
                            case w49 => kernel_rfl
                            (try simp only [Act.put, List.setIfInBounds_toArray, List.set_cons_zero, List.set_cons_succ])
                            refine De.Det.skip (o := ?o50) 7 ?q50 (by kernel_rfl) (by kernel_rfl) ?w50 ?h50
                            case q50 => (simp only [List.getElem?_toArray, List.getElem?_cons_succ, List.getElem?_cons_zero]; rfl)
                            case w50 => kernel_rfl
                            (try simp only [Act.put, List.setIfInBounds_toArray, List.set_cons_zero, List.set_cons_succ])
                            refine De.Det.skip (o := ?o51) 8 ?q51 (by kernel_rfl) (by kernel_rfl) ?w51 ?h51
                            case q51 => (simp only [List.getElem?_toArray, List.getElem?_cons_succ, List.getElem?_cons_zero]; rfl)
                            case w51 => kernel_rfl
                            (try simp only [Act.put, List.setIfInBounds_toArray, List.set_cons_zero, List.set_cons_succ])
                            refine De.Det.skip (o := ?o52) 9 ?q52 (by kernel_rfl) (by kernel_rfl) ?w52 ?h52
                            case q52 => (simp only [List.getElem?_toArray, List.getElem?_cons_succ, List.getElem?_cons_zero]; rfl)
                            case w52 => kernel_rfl
                            (try simp only [Act.put, List.setIfInBounds_toArray, List.set_cons_zero, List.set_cons_succ])
                            refine De.Det.skip (o := ?o53) 10 ?q53 (by kernel_rfl) (by kernel_rfl) ?w53 ?h53
                            case q53 => (simp only [List.getElem?_toArray, List.getElem?_cons_succ, List.getElem?_cons_zero]; rfl)
                            case w53 => kernel_rfl
                            (try simp only [Act.put, List.setIfInBounds_toArray, List.set_cons_zero, List.set_cons_succ])
                            refine De.Det.skip (o := ?o54) 11 ?q54 (by kernel_rfl) (by kernel_rfl) ?w54 ?h54
                            case q54 => (simp only [List.getElem?_toArray, List.getElem?_cons_succ, List.getElem?_cons_zero]; rfl)
                            case w54 => kernel_rfl
                            (try simp only [Act.put, List.setIfInBounds_toArray, List.set_cons_zero, List.set_cons_succ])
                            refine De.Det.skip (o := ?o55) 12 ?q55 (by kernel_rfl) (by kernel_rfl) ?w55 ?h55
                            case q55 => (simp only [List.getElem?_toArray, List.getElem?_cons_succ, List.getElem?_cons_zero]; rfl)
                            case w55 => kernel_rfl
                            (try simp only [Act.put, List.setIfInBounds_toArray, List.set_cons_zero, List.set_cons_succ])
                            refine De.Det.read (o := ?o56) (v := ?v56) 13 ?q56 (by kernel_rfl) (by kernel_rfl) ?w56 ?y56 ?h56
                            case q56 => (simp only [List.getElem?_toArray, List.getElem?_cons_succ, List.getElem?_cons_zero]; rfl)
                            case w56 => kernel_rfl
                            case y56 => (intro w' hw'; obtain ⟨c1, c2⟩ := hC.out w' hw'; go_simp; (try with_reducible rfl))
                            (try simp only [Act.put, List.setIfInBounds_toArray, List.set_cons_zero, List.set_cons_succ])
                            refine De.Det.read (o := ?o57) (v := ?v57) 14 ?q57 (by kernel_rfl) (by kernel_rfl) ?w57 ?y57 ?h57
                            case q57 => (simp only [List.getElem?_toArray, List.getElem?_cons_succ, List.getElem?_cons_zero]; rfl)
                            case w57 => kernel_rfl
                            case y57 => (intro w' hw'; obtain ⟨c1, c2⟩ := hC.out w' hw'; go_simp; (try with_reducible rfl))
                            (try simp only [Act.put, List.setIfInBounds_toArray, List.set_cons_zero, List.set_cons_succ])
                            refine De.Det.read (o := ?o58) (v := ?v58) 15 ?q58 (by kernel_rfl) (by kernel_rfl) ?w58 ?y58 ?h58
                            case q58 => (simp only [List.getElem?_toArray, List.getElem?_cons_succ, List.getElem?_cons_zero]; rfl)
                            case w58 => kernel_rfl
                            case y58 => (intro w' hw'; obtain ⟨c1, c2⟩ := hC.out w' hw'; go_simp; (try with_reducible rfl))
                            (try simp only [Act.put, List.setIfInBounds_toArray, List.set_cons_zero, List.set_cons_succ])
                            refine De.Det.base ?_
                            refine De.Det2.done (by kernel_rfl) ?_
                            rintro wt ⟨hb_wt, hO_wt⟩
                            clear hO_wt
                            go_wp2_with (fail)
                            go_roundw
                            case rel => exact ⟨q + 1, by omega, by go_num, by rw [HALL.out]; rfl, hbq.trans ((drew_up hb_wt).mono hbq.size)⟩
                            case measure => simp [intOf]; omega
                          · have hqk2 : ((q : Int) == (k : Int)) = false := by simp; omega
                            have hqk3 : (q == k) = false := by simp [hqk]
                            rw [hqk3] at HALL
                            clear hqk hqk3
                            refine De.region_det (by kernel_rfl) (by kernel_rfl) ?_
                            refine De.Det.read (o := ?o59) (v := ?v59) 0 ?q59 (by kernel_rfl) (by kernel_rfl) ?w59 ?y59 ?h59
                            case q59 => (simp only [List.getElem?_toArray, List.getElem?_cons_succ, List.getElem?_cons_zero]; rfl)
                            case w59 => kernel_rfl
                            case y59 => (intro w' hw'; obtain ⟨c1, c2⟩ := hC.out w' hw'; go_simp; (try with_reducible rfl))
                            (try simp only [Act.put, List.setIfInBounds_toArray, List.set_cons_zero, List.set_cons_succ])
                            refine De.Det.read (o := ?o60) (v := ?v60) 1 ?q60 (by kernel_rfl) (by kernel_rfl) ?w60 ?y60 ?h60
                            case q60 => (simp only [List.getElem?_toArray, List.getElem?_cons_succ, List.getElem?_cons_zero]; rfl)
                            case w60 => kernel_rfl
                            case y60 => (intro w' hw'; obtain ⟨c1, c2⟩ := hC.out w' hw'; go_simp; (try with_reducible rfl))
                            (try simp only [Act.put, List.setIfInBounds_toArray, List.set_cons_zero, List.set_cons_succ])
                            refine De.Det.read (o := ?o61) (v := ?v61) 2 ?q61 (by kernel_rfl) (by kernel_rfl) ?w61 ?y61 ?h61
                            case q61 => (simp only [List.getElem?_toArray, List.getElem?_cons_succ, List.getElem?_cons_zero]; rfl)
                            case w61 => kernel_rfl
                            case y61 => (intro w' hw'; obtain ⟨c1, c2⟩ := hC.out w' hw'; go_simp; (try with_reducible rfl))
                            (try simp only [Act.put, List.setIfInBounds_toArray, List.set_cons_zero, List.set_cons_succ])
                            refine De.Det.read (o := ?o62) (v := ?v62) 3 ?q62 (by kernel_rfl) (by kernel_rfl) ?w62 ?y62 ?h62
                            case q62 => (simp only [List.getElem?_toArray, List.getElem?_cons_succ, List.getElem?_cons_zero]; rfl)
                            case w62 => kernel_rfl
                            case y62 => (intro w' hw'; obtain ⟨c1, c2⟩ := hC.out w' hw'; go_simp; (try with_reducible rfl))
                            (try simp only [Act.put, List.setIfInBounds_toArray, List.set_cons_zero, List.set_cons_succ])
                            refine De.Det.read (o := ?o63) (v := ?v63) 4 ?q63 (by kernel_rfl) (by kernel_rfl) ?w63 ?y63 ?h63
                            case q63 => (simp only [List.getElem?_toArray, List.getElem?_cons_succ, List.getElem?_cons_zero]; rfl)
                            case w63 => kernel_rfl
                            case y63 => (intro w' hw'; obtain ⟨c1, c2⟩ := hC.out w' hw'; go_simp; (try with_reducible rfl))
                            (try simp only [Act.put, List.setIfInBounds_toArray, List.set_cons_zero, List.set_cons_succ])
                            refine De.Det.read (o := ?o64) (v := ?v64) 5 ?q64 (by kernel_rfl) (by kernel_rfl) ?w64 ?y64 ?h64
                            case q64 => (simp only [List.getElem?_toArray, List.getElem?_cons_succ, List.getElem?_cons_zero]; rfl)
                            case w64 => kernel_rfl
                            case y64 => (intro w' hw'; obtain ⟨c1, c2⟩ := hC.out w' hw'; go_simp; (try with_reducible rfl))
                            (try simp only [Act.put, List.setIfInBounds_toArray, List.set_cons_zero, List.set_cons_succ])
                            refine De.Det.read (o := ?o65) (v := ?v65) 6 ?q65 (by kernel_rfl) (by kernel_rfl) ?w65 ?y65 ?h65
                            case q65 => (simp only [List.getElem?_toArray, List.getElem?_cons_succ, List.getElem?_cons_zero]; rfl)
                            case w65 => kernel_rfl
                            case y65 => (intro w' hw'; obtain ⟨c1, c2⟩ := hC.out w' hw'; go_simp; (try with_reducible rfl))
                            (try simp only [Act.put, List.setIfInBounds_toArray, List.set_cons_zero, List.set_cons_succ])
                            refine De.Det.read (o := ?o66) (v := ?v66) 7 ?q66 (by kernel_rfl) (by kernel_rfl) ?w66 ?y66 ?h66
                            case q66 => (simp only [List.getElem?_toArray, List.getElem?_cons_succ, List.getElem?_cons_zero]; rfl)
                            case w66 => kernel_rfl
                            case y66 => (intro w' hw'; obtain ⟨c1, c2⟩ := hC.out w' hw'; go_simp; (try with_reducible rfl))
                            (try simp only [Act.put, List.setIfInBounds_toArray, List.set_cons_zero, List.set_cons_succ])
                            refine De.Det.read (o := ?o67) (v := ?v67) 8 ?q67 (by kernel_rfl) (by kernel_rfl) ?w67 ?y67 ?h67
                            case q67 => (simp only [List.getElem?_toArray, List.getElem?_cons_succ, List.getElem?_cons_zero]; rfl)
                            case w67 => kernel_rfl
                            case y67 => (intro w' hw'; obtain ⟨c1, c2⟩ := hC.out w' hw'; go_simp; (try with_reducible rfl))
                            (try simp only [Act.put, List.setIfInBounds_toArray, List.set_cons_zero, List.set_cons_succ])
                            refine De.Det.read (o := ?o68) (v := ?v68) 9 ?q68 (by kernel_rfl) (by kernel_rfl) ?w68 ?y68 ?h68
                            case q68 => (simp only [List.getElem?_toArray, List.getElem?_cons_succ, List.getElem?_cons_zero]; rfl)
                            case w68 => kernel_rfl
                            case y68 => (intro w' hw'; obtain ⟨c1, c2⟩ := hC.out w' hw'; go_simp; (try with_reducible rfl))
                            (try simp only [Act.put, List.setIfInBounds_toArray, List.set_cons_zero, List.set_cons_succ])
                            refine De.Det.read (o := ?o69) (v := ?v69) 10 ?q69 (by kernel_rfl) (by kernel_rfl) ?w69 ?y69 ?h69
                            case q69 => (simp only [List.getElem?_toArray, List.getElem?_cons_succ, List.getElem?_cons_zero]; rfl)
                            case w69 => kernel_rfl
                            case y69 => (intro w' hw'; obtain ⟨c1, c2⟩ := hC.out w' hw'; go_simp; (try with_reducible rfl))
                            (try simp only [Act.put, List.setIfInBounds_toArray, List.set_cons_zero, List.set_cons_succ])
                            refine De.Det.call (o := ?o70) (v := ?v70) (f := ?f70) (args := ?g70) 11 ?q70 (by kernel_rfl) (by kernel_rfl) ?w70 ?e70 ?c70 ?h70
                            case q70 => (simp only [List.getElem?_toArray, List.getElem?_cons_succ, List.getElem?_cons_zero]; rfl)
                            case w70 => kernel_rfl
                            case e70 => (intro w'; go_simp; refine ⟨?_, ?_⟩ <;> with_reducible rfl)
                            case c70 => (intro w' hw'; exact (hctq.out w' hw'))
                            (try simp only [Act.put, List.setIfInBounds_toArray, List.set_cons_zero, List.set_cons_succ])
                            refine De.Det.read (o := ?o71) (v := ?v71) 12 ?q71 (by kernel_rfl) (by kernel_rfl) ?w71 ?y71 ?h71
                            case q71 => (simp only [List.getElem?_toArray, List.getElem?_cons_succ, List.getElem?_cons_zero]; rfl)
                            case w71 => kernel_rfl
                            case y71 => (intro w' hw'; obtain ⟨c1, c2⟩ := hC.out w' hw'; go_simp; (try with_reducible rfl))
                            (try simp only [Act.put, List.setIfInBounds_toArray, List.set_cons_zero, List.set_cons_succ])
                            refine De.Det.read (o := ?o72) (v := ?v72) 13 ?q72 (by kernel_rfl) (by kernel_rfl) ?w72 ?y72 ?h72
                            case q72 => (simp only [List.getElem?_toArray, List.getElem?_cons_succ, List.getElem?_cons_zero]; rfl)
                            case w72 => kernel_rfl
                            case y72 => (intro w' hw'; obtain ⟨c1, c2⟩ := hC.out w' hw'; go_simp; (try with_reducible rfl))
                            (try simp only [Act.put, List.setIfInBounds_toArray, List.set_cons_zero, List.set_cons_succ])
                            refine De.Det.read (o := ?o73) (v := ?v73) 14 ?q73 (by kernel_rfl) (by kernel_rfl) ?w73 ?y73 ?h73
                            case q73 => (simp only [List.getElem?_toArray, List.getElem?_cons_succ, List.getElem?_cons_zero]; rfl)
                            case w73 => kernel_rfl
                            case y73 => (intro w' hw'; obtain ⟨c1, c2⟩ := hC.out w' hw'; go_simp; (try with_reducible rfl))
                            (try simp only [Act.put, List.setIfInBounds_toArray, List.set_cons_zero, List.set_cons_succ])
                            refine De.Det.read (o := ?o74) (v := ?v74) 15 ?q74 (by kernel_rfl) (by kernel_rfl) ?w74 ?y74 ?h74
                            case q74 => (simp only [List.getElem?_toArray, List.getElem?_cons_succ, List.getElem?_cons_zero]; rfl)
                            case w74 => kernel_rfl
                            case y74 => (intro w' hw'; obtain ⟨c1, c2⟩ := hC.out w' hw'; go_simp; (try with_reducible rfl))
                            (try simp only [Act.put, List.setIfInBounds_toArray, List.set_cons_zero, List.set_cons_succ])
                            refine De.Det.base ?_
                            refine De.Det2.done (by kernel_rfl) ?_
                            rintro wt ⟨hb_wt, hO_wt⟩
                            clear hO_wt
                            go_wp2_with (fail)
                            go_roundw
                            case rel => exact ⟨q + 1, by omega, by go_num, by rw [HALL.out]; simp, hbq.trans ((drew_up hb_wt).mono hbq.size)⟩
                            case measure => simp [intOf]; omega
                      · obtain rfl : q = a := by omega
                        obtain ⟨al, hal⟩ : ∃ x, ((List.range q).all fun m => m == k || !in3 (triD T m) (P1, P2)) = x := ⟨_, rfl⟩
                        rw [hal] at HSN ⊢
                        clear hal
                        cases F with
                        | true =>
                          go_wp2_with (fail)
                          go_roundw
                          case rel => exact ⟨i + 1, by omega, by go_num, by rw [HSN.out]; rfl, hbjq⟩
                          case measure => simp [intOf]; omega
                        | false =>
                          go_wp2_with (fail)
                          go_roundw
                          case rel => exact ⟨i + 1, by omega, by go_num, by rw [HSN.out]; simp, hbjq⟩
                          case measure => simp [intOf]; omega
                · obtain rfl : i = n := by omega
                  rw [HANY.out]
                  go_wp2_with (fail)
                  go_roundw
                  case rel => exact ⟨k + 1, by omega, by go_num, hbk.trans (hbi.mono hbk.size)⟩
                  case measure => simp [intOf]; omega
          · obtain rfl : k = a := by omega
            go_wp2_with (first
              | (go_at_call 7; (with_reducible refine (hpw.out _ (HBB3.out.trans ((hbw.trans (hbk.mono hbw.size)).mono HBB3.out.size))).mono ?_); rintro e wz ⟨rfl, hbz⟩))
            go_ret
            have h1 := hbw.trans (hbk.mono hbw.size)
            have h2 := HBB3.out.trans (h1.mono HBB3.out.size)
            exact ⟨rfl, h2.trans (hbz.mono h2.size)⟩
end Du
end Go.Proofs.YtkbfmogjhjdjmaaDoor
