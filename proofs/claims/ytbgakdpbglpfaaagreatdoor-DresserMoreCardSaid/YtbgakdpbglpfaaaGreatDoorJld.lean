/- The texts DrLd to DrMa, joined by joinlist.py: their statements say what each proves. -/
import Derived.Test.YtbgakdpbglpfaaaGreatDoorJlb
import Derived.Test.YtbgakdpbglpfaaaGreatDoorJpu
import Derived.Defers
-- the text DrLd
namespace Go.Proofs.YtbgakdpbglpfaaaGreatDoor
open Go.RowKit
namespace Dr
set_option linter.unusedSimpArgs false
theorem zero_parsed (w : World) : (zeroValue 174).run Tryz.prog w = .ok (.agg #[.slice none 0 0, .slice none 0 0]) w := Tryz.zeroValue174 w
theorem info_parsed : (Tryz.prog.info? 174).map (·.size) = some 2 := by kernel_rfl
set_option maxRecDepth 100000 in
theorem read_long (s : ByteArray) (h : 40 < s.size) (w : World) : Calls Tryz.prog 92 #[.string s] w fun e w' => e = .returned (readR (readP s)) ∧ Below w.heap.size w w' := by
  have hr : readR (readP s) = .tuple #[.nilIface, .int .i64 19] := by
    have h2 : 40 < s.data.toList.length := by rw [show s.data.toList.length = s.size from byts_len s]; exact h
    unfold readP readL
    rw [if_pos h2]
    rfl
  rw [hr]
  have h1 : (40 : Int) < s.size := by omega
  clear hr
  go_enter Tryz.func92, Tryz.ntmps92
  go_wp2_with (fail)
  go_ret2
  exact ⟨rfl, Below.refl _ _⟩
set_option maxRecDepth 100000 in
set_option maxHeartbeats 4000000 in
theorem read_short (s : ByteArray) (h : s.size ≤ 40) (w : World) (m : Int) (hm : w.cell? ⟨3, 0, none⟩ = some (.int .i64 m)) : Calls Tryz.prog 92 #[.string s] w fun e w' => e = .returned (readR (readP s)) ∧ Below w.heap.size w w' := by
  have h1 : ¬ (40 : Int) < s.size := by omega
  have hrd : readP s = (if !((splitL 32 (byts s)).all wordB) then (9, .back ⟨#[]⟩) else
    match splitL 32 (byts s) with
    | [] => (10, .back ⟨#[]⟩)
    | w :: ws =>
      if kindP w = 0 then (10, .back ⟨#[]⟩) else
      if ws.length ≠ (formP (kindP w)).length then (5, .back ⟨#[]⟩) else
      let r := argsP (formP (kindP w)) ws [] [] 0
      if r.1 ≠ 0 then (r.1, .back ⟨#[]⟩) else (0, madeP (kindP w) r.2.1 r.2.2)) := by
    have h2 : ¬ 40 < s.data.toList.length := by rw [show s.data.toList.length = s.size from byts_len s]; omega
    unfold readP readL
    rw [if_neg h2]
    rfl
  have HSP := Lib.hid (Tryz.strings_Split s ⟨#[32]⟩ m w (by omega) hm (by decide))
  obtain ⟨R, hR⟩ : ∃ R, readR (readP s) = R := ⟨_, rfl⟩
  rw [hR]
  rw [hrd] at hR
  obtain ⟨ws, hws⟩ : ∃ ws, wordsB s = ws := ⟨_, rfl⟩
  have hwb := wordsB_byts s
  have hwl := wordsB_le s
  have hwn := wordsB_len s
  rw [hws] at hwb hwl hwn
  rw [← hwb] at hR
  have hn1 : 1 ≤ ws.length := by omega
  unfold wordsB at hws
  rw [← hwn, hws] at HSP
  obtain ⟨n, hn⟩ : ∃ n, ws.length = n := ⟨_, rfl⟩
  rw [hn] at HSP hwl hn1
  have HR := Lib.hid hR
  have HN := Lib.hid hn
  clear hrd hR hws hwb hwn hn hm
  go_enter Tryz.func92, Tryz.ntmps92
  go_wp2_with (first
    | (go_at_call 54; (with_reducible refine HSP.out.mono ?_)
       rintro e w1 ⟨rfl, hw1⟩
       obtain ⟨gl, hgl⟩ : ∃ gl, w.heap.size = gl := ⟨_, rfl⟩
       rw [hgl]
       have hG : Hid (Blk w1 gl 9 (ws.map Value.string).toArray) := by rw [Hid, hw1, ← hgl]; exact Blk.new _ _ _
       have hb1 : Hid (Below w.heap.size w w1) := by rw [Hid, hw1]; exact (Below.refl _ _).alloc (Nat.le_refl _) _
       have HGL := Lib.hid hgl
       clear hw1 hgl))
  go_loopw [23] (fun v wr => ∃ i : Nat, i ≤ n ∧ v = .int .i64 (i : Int) ∧ Hid (((ws.take i).map byts).all wordB = true) ∧ Hid (Below w1.heap.size w1 wr)) (fun v _ => n - (intOf v).toNat)
  case atStart => exact ⟨0, Nat.zero_le _, rfl, rfl, Below.refl _ _⟩
  case round =>
    obtain ⟨i, hin, rfl, hOK, hbe⟩ := hrel
    by_cases hlt : i < n
    · have hlti : (i : Int) < n := by omega
      have hi0 : (0 : Int) ≤ i := by omega
      obtain ⟨x, hx⟩ : ∃ x, ws[i]? = some x := ⟨_, List.getElem?_eq_getElem (by rw [HN.out]; exact hlt)⟩
      have cx : wr.cell? ⟨gl, i, none⟩ = some (.string x) := (hG.out.callee hbe.out).at_ i (by simp [hx])
      have HX := Lib.hid hx
      have HOK := Lib.hid (notOk_any x wr)
      have hbad : ∀ b : Bool, wordB (byts x) = b → b = false → (ws.map byts).all wordB = false := fun b hb hb2 => by
        rw [Bool.eq_false_iff]
        intro h2
        rw [List.all_eq_true] at h2
        have := h2 (byts x) (List.mem_map.2 ⟨x, List.mem_of_getElem? HX.out, rfl⟩)
        rw [hb, hb2] at this
        cases this
      have HBAD := Lib.hid hbad
      have hnext : wordB (byts x) = true → ((ws.take (i + 1)).map byts).all wordB = true := fun h => by
        rw [List.take_add_one, HX.out, List.map_append, List.all_append, hOK.out]
        simpa using h
      have HNX := Lib.hid hnext
      clear hbad hnext hx
      by_cases h0 : x.toList = []
      · have h2 : x.toList.isEmpty = true := by rw [h0]; rfl
        have hwb : wordB (byts x) = false := by unfold wordB; rw [← isE, h2]; rfl
        have hal := HBAD.out _ hwb rfl
        have HB := hb1.out.trans (hbe.out.mono hb1.out.size)
        have hRR : R = .tuple #[.nilIface, .int .i64 9] := by rw [← HR.out, hal]; rfl
        clear hwb hal
        go_wp2_with (fail)
        go_ret2
        exact ⟨by rw [hRR]; rfl, HB⟩
      · have h2 : x.toList.isEmpty = false := by simpa using h0
        cases hok : (byts x).all okC with
        | false =>
          have hwb : wordB (byts x) = false := by unfold wordB; rw [hok, Bool.and_false]
          have hal := HBAD.out _ hwb rfl
          rw [hok] at HOK
          have HB := hb1.out.trans (hbe.out.mono hb1.out.size)
          have hRR : Hid (R = .tuple #[.nilIface, .int .i64 9]) := by rw [Hid, ← HR.out, hal]; rfl
          clear hwb hal hok
          go_wp2_with (go_at_call 120; (with_reducible refine HOK.out.mono ?_); rintro e w2 ⟨rfl, hb2⟩)
          go_ret2
          exact ⟨by rw [hRR.out]; rfl, HB.trans (hb2.mono HB.size)⟩
        | true =>
          have hwb : wordB (byts x) = true := by unfold wordB; rw [hok, ← isE, h2]; rfl
          have hnx := Lib.hid (HNX.out hwb)
          rw [hok] at HOK
          clear hwb hok
          go_wp2_with (go_at_call 120; (with_reducible refine HOK.out.mono ?_); rintro e w2 ⟨rfl, hb2⟩)
          go_roundw
          case rel => exact ⟨i + 1, by omega, by go_num, hnx, hbe.out.trans (hb2.mono hbe.out.size)⟩
          case measure => simp only [intOf]; omega
    · have hlti : ¬ (i : Int) < n := by omega
      obtain rfl : i = n := by omega
      have hal : (ws.map byts).all wordB = true := by
        have h := hOK.out
        rw [List.take_of_length_le (by rw [HN.out]; exact Nat.le_refl _)] at h
        exact h
      obtain ⟨x0, rest, hws⟩ : ∃ x0 rest, ws = x0 :: rest := by
        cases ws with
        | nil => have := HN.out; simp at this; omega
        | cons a l => exact ⟨a, l, rfl⟩
      subst hws
      have hlr : rest.length + 1 = i := HN.out
      have hR := HR.out
      rw [hal] at hR
      have hR2 : readR (if kindP (byts x0) = 0 then (10, .back ⟨#[]⟩) else if (rest.map byts).length ≠ (formP (kindP (byts x0))).length then (5, .back ⟨#[]⟩) else
        if (argsP (formP (kindP (byts x0))) (rest.map byts) [] [] 0).1 ≠ 0 then ((argsP (formP (kindP (byts x0))) (rest.map byts) [] [] 0).1, .back ⟨#[]⟩) else (0, madeP (kindP (byts x0)) (argsP (formP (kindP (byts x0))) (rest.map byts) [] [] 0).2.1 (argsP (formP (kindP (byts x0))) (rest.map byts) [] [] 0).2.2)) = R := hR
      have hk9 := kind_lt (byts x0)
      have hki := kind_any x0 wr
      obtain ⟨k, hk⟩ : ∃ k, kindP (byts x0) = k := ⟨_, rfl⟩
      rw [hk] at hR2 hk9 hki
      obtain ⟨fm, hfm⟩ : ∃ fm, bstr (formP k) = fm := ⟨_, rfl⟩
      have hbf : byts fm = formP k := by rw [← hfm]; exact byts_bstr _
      have hfl := byts_len fm
      rw [hbf] at hfl
      rw [hfm] at hki
      have HKI := Lib.hid hki
      have HR2 := Lib.hid hR2
      have HB := Lib.hid (hb1.out.trans (hbe.out.mono hb1.out.size))
      have HWR : Hid (Blk wr gl 9 ((x0 :: rest).map Value.string).toArray) := hG.out.callee hbe.out
      have cx : wr.cell? ⟨gl, 0, none⟩ = some (.string x0) := HWR.out.at_ 0 (by simp)
      have HLR := Lib.hid hlr
      have HBF := Lib.hid hbf
      clear hR hR2 HR hki hk hfm hOK hbe hal hlr hbf
      by_cases hk0 : k = 0
      · subst hk0
        have h0 : fm.toList = [] := by rw [ByteArray.toList_eq]; exact HBF.out
        have h2 : fm.toList.isEmpty = true := by rw [h0]; rfl
        have hRR : Hid (R = .tuple #[.nilIface, .int .i64 10]) := by rw [Hid, ← HR2.out]; rfl
        go_wp2_with (go_at_call 122; (with_reducible refine HKI.out.mono ?_); rintro e w2 ⟨rfl, hw2⟩; replace hw2 := hw2.symm; subst hw2)
        go_ret2
        exact ⟨by rw [hRR.out]; rfl, HB.out⟩
      have hfl3 := form_len hk9
      have hf1 := hfl3.2 hk0
      have hf3 := hfl3.1
      rw [hfl] at hf1 hf3
      have h0 : ¬ fm.toList = [] := fun e => by
        rw [ByteArray.toList_eq] at e
        have := byts_len fm
        unfold byts at this
        rw [e] at this
        simp at this
        omega
      have h2 : fm.toList.isEmpty = false := by simpa using h0
      by_cases hsh : i = fm.size + 1
      · have hnl : ((i : Int) != (fm.size : Int) + 1) = false := by simp; omega
        go_wp2_with (first
          | (go_at_call 122; (with_reducible refine HKI.out.mono ?_); rintro e w2 ⟨rfl, hw2⟩; replace hw2 := hw2.symm; subst hw2)
          | (with_reducible show wpList _ _ _ (⟨_, .alloc 174, _, _, _, _⟩ :: _) _ _
             refine wpList_alloc_blk rfl 174 rfl _ zero_parsed ?_
             intro w3 gp hG3 hgr3 hge3))
        obtain ⟨T, hT⟩ : ∃ T, argsP (formP k) (rest.map byts) [] [] 0 = T := ⟨_, rfl⟩
        have hRT : readR (if T.1 ≠ 0 then (T.1, .back ⟨#[]⟩) else (0, madeP k T.2.1 T.2.2)) = R := by
          have hne : ¬ (rest.map byts).length ≠ (formP k).length := by rw [List.length_map, hfl]; have := HLR.out; omega
          rw [← HR2.out, if_neg hk0, if_neg hne, hT]
        have HT := Lib.hid hT
        have HRT := Lib.hid hRT
        have HGP : Hid (wr.heap.size ≤ gp ∧ gp < w3.heap.size) := ⟨hge3, hG3.lt⟩
        have hz1 := HB.out.size
        have HB3 : Hid (Below w.heap.size w w3) := HB.out.trans ((below_grown hgr3).mono hz1)
        have HG3 := Lib.hid hG3
        obtain ⟨it, hit⟩ : ∃ it, w3.heap.size = it := ⟨_, rfl⟩
        obtain ⟨w4, hw4⟩ : ∃ y, y = w3.iter fm 0 := ⟨_, rfl⟩
        rw [← hw4, hit]
        have hw4' : w4 = w3.alloc (.stringIter fm 0) := hw4
        have HS4 : Hid (w4.heap.size = it + 1) := by rw [Hid, hw4']; simp [hit]
        have HIT : Hid (w4.heap[it]? = some (.stringIter fm 0)) := by rw [Hid, hw4', ← hit]; exact heap_alloc_new w3 _
        have HGP4 : Hid (Blk w4 gp 174 #[.slice none 0 0, .slice none 0 0]) := by rw [Hid, hw4']; exact HG3.out.alloc _
        have HB4 : Hid (Below w.heap.size w w4) := by rw [Hid, hw4']; exact HB3.out.alloc HB3.out.size _
        have HGL4 : Hid (Blk w4 gl 9 ((x0 :: rest).map Value.string).toArray ∧ gl < gp) := by
          refine ⟨?_, Nat.lt_of_lt_of_le HWR.out.lt hge3⟩
          rw [hw4']
          exact (Blk.none_ HWR.out hgr3).alloc _
        have HITE : Hid (w3.heap.size = it) := hit
        have hrl : rest.length = fm.size := by have := HLR.out; omega
        have HRL := Lib.hid hrl
        have HGQ : Hid (w.heap.size ≤ gp ∧ gp < it) := ⟨Nat.le_trans HB.out.size HGP.out.1, by rw [← hit]; exact HGP.out.2⟩
        clear hw4 hw4' hit hT hRT hG3 hgr3 hge3 hrl hnl HR2 HKI hz1
        go_loopw [10] (fun v wq => ∃ (j : Nat) (vn vx : Value) (ns : List (List UInt8)) (xs : List Nat) (e : Int), j ≤ fm.size ∧ v = .int .i64 e ∧ Hid (RdS w4 wq gp it fm j vn vx ns xs) ∧ Hid (argsP ((formP k).drop j) ((rest.map byts).drop j) ns xs e = T) ∧ Hid (ns.length ≤ j ∧ xs.length ≤ j)) (fun _ wq => fm.size - wq.iterPos it)
        case atStart =>
          refine ⟨0, .slice none 0 0, .slice none 0 0, [], [], 0, Nat.zero_le _, rfl, ⟨HIT.out, HGP4.out, OwnS.nil _ _, OwnI.nil _ _, fun _ _ _ _ => rfl, ⟨rfl, rfl, rfl, Nat.le_refl _⟩, ⟨by have := HGQ.out.2; have := HS4.out; omega, by have := HS4.out; omega⟩⟩, ?_, ⟨Nat.zero_le _, Nat.zero_le _⟩⟩
          rw [List.drop_zero, List.drop_zero]
          exact HT.out
        case round =>
          obtain ⟨j, vn, vx, ns, xs, e, hjf, rfl, hRS, hAR, hLN⟩ := hrel
          by_cases hlt2 : j < fm.size
          · obtain ⟨c, hc⟩ : ∃ c, fm[j]'hlt2 = c := ⟨_, rfl⟩
            have hfc : (formP k)[j]? = some c := by rw [← HBF.out, byts_at hlt2, hc]
            have hcl := form_let hk9 (List.mem_of_getElem? hfc)
            have ha : (fm[j]'hlt2).toNat < 128 := by rw [hc]; rcases hcl with rfl | rfl | rfl | rfl | rfl <;> decide
            obtain ⟨y, hy⟩ : ∃ y, rest[j]? = some y := ⟨_, List.getElem?_eq_getElem (by rw [HRL.out]; exact hlt2)⟩
            have hyb : (rest.map byts)[j]? = some (byts y) := by rw [List.getElem?_map, hy]; rfl
            have hnx : ∀ ty, (Instr.next (.pointer (some ⟨it, 0, none⟩)) true ty).run Tryz.prog wr = _ := fun ty => Lib.run_next_ascii_at wr it fm j ty hRS.out.iter hlt2 ha
            rw [hc] at hnx
            obtain ⟨wa, hwa⟩ : ∃ wa, wr.iterAt it fm (j + 1) = wa := ⟨_, rfl⟩
            have HSA := Lib.hid (hRS.out.next (j + 1))
            rw [hwa] at HSA hnx
            have hz4 := HS4.out
            have HGLA : Hid (Blk wa gl 9 ((x0 :: rest).map Value.string).toArray) := (HSA.out.far gl (by have := HGL4.out.2; have := HGQ.out.2; omega) (by have := HGL4.out.2; omega) (by have := HGL4.out.2; have := HGQ.out.2; omega)).trans HGL4.out.1
            have cy : wa.cell? ⟨gl, j + 1, none⟩ = some (.string y) := HGLA.out.at_ (j + 1) (by simp [hy])
            have hj1 : ((j : Int) + 1).toNat = j + 1 := by omega
            have hj2 : (0 : Int) ≤ (j : Int) + 1 := by omega
            have hj3 : (j : Int) + 1 < (fm.size : Int) + 1 := by omega
            have hnl : ns.length ≤ 3 ∧ xs.length ≤ 3 := ⟨by have := hLN.out.1; omega, by have := hLN.out.2; omega⟩
            have HBW : Hid (∀ w', Below wa.heap.size wa w' → Below w.heap.size w w') := fun w' hb => ((HSA.out.below HB4.out HGQ.out.1 (by have := HGQ.out; omega)).trans (hb.mono (Nat.le_trans HB4.out.size HSA.out.os.2.2.2)))
            clear hwa hc ha hz4
            by_cases h87 : c = 87
            · subst h87
              have hst := args_at_w (ns := ns) (xs := xs) (e := e) hfc hyb
              rw [hAR.out] at hst
              have HNA := Lib.hid (named_any y wa)
              cases hnm : isName (byts y) with
              | false =>
                rw [hnm] at HNA hst
                have hRR : Hid (R = .tuple #[.nilIface, .int .i64 8]) := by rw [Hid, ← HRT.out, hst]; rfl
                clear hst hnm hfc hyb hy hcl
                go_wp2_with (go_at_call 123; (with_reducible refine HNA.out.mono ?_); rintro e w5 ⟨rfl, hb5⟩)
                go_ret2
                exact ⟨by rw [hRR.out]; rfl, HBW.out _ hb5⟩
              | true =>
                rw [hnm] at HNA hst
                have HST : Hid (argsP ((formP k).drop (j + 1)) ((rest.map byts).drop (j + 1)) (ns ++ [byts y]) xs e = T) := hst.symm
                clear hst hnm hfc hyb hy hcl
                go_wp2_with (first
                  | (go_at_call 123; (with_reducible refine HNA.out.mono ?_)
                     rintro e w5 ⟨rfl, hb5⟩
                     have HS5 := Lib.hid (HSA.out.callee hb5)
                     have c5 : w5.cell? ⟨gp, 0, none⟩ = some vn := HS5.out.bp.at_ 0 rfl)
                  | (with_reducible show wpList _ _ _ (⟨_, .buildSlice 22 _ _, _, _, _, _⟩ :: _) _ _
                     refine wpList_lit1 rfl 22 9 _ (.string y) rfl rfl (lit_str y) ?_
                     intro w6 g6 hG6 hgr6 hge6
                     have HS6 := Lib.hid (HS5.out.callee (below_grown hgr6))
                     have HB6 : Hid (Below wa.heap.size wa w6) := hb5.trans ((below_grown hgr6).mono hb5.size))
                  | (at_builtin
                     refine wpList_pushS rfl _ _ rfl rfl HS6.out.on g6 1 y rfl hG6 (by rw [List.length_map]; omega) HS6.out.os.2.2.2 ?_
                     intro g7 cap7 w7 hO7 hgr7 hat7 hlt7
                     rw [List.length_map] at hO7
                     have ho7 : OwnS w7 w4.heap.size (.slice (some ⟨g7, 0, none⟩) (ns.length + 1) cap7) ((ns ++ [byts y]).map bstr) := by
                       rw [List.map_append, List.map_singleton, bstr_byts]; exact hO7
                     have HS7 := Lib.hid (HS6.out.pushN ho7 hgr7)
                     have c7 : w7.cell? ⟨gp, 0, none⟩ = some vn := by
                       have hb : Blk w7 gp _ #[vn, vx] := (hgr7.block gp (by have := HS6.out.lt.1; have := HS6.out.os.2.2.2; omega) (fun e => by have := HS6.out.on.ge e.symm; have := HS6.out.lt.1; omega)).trans HS6.out.bp
                       exact hb.at_ 0 rfl
                     have f7 : w7.frozen? ⟨gp, 0, none⟩ = false := by
                       have hb : Blk w7 gp _ #[vn, vx] := (hgr7.block gp (by have := HS6.out.lt.1; have := HS6.out.os.2.2.2; omega) (fun e => by have := HS6.out.on.ge e.symm; have := HS6.out.lt.1; omega)).trans HS6.out.bp
                       exact hb.frozen 0
                     clear hO7 ho7 hgr7 hat7 hlt7 hG6 hgr6 hge6 c5)
                  | (with_reducible show wpList _ _ _ (⟨_, .store 22 _ _, _, _, _, _⟩ :: _) _ _
                     refine wpList_setcellC rfl 22 _ _ rfl gp 0 (.slice (some ⟨g7, 0, none⟩) (ns.length + 1) cap7) rfl rfl (by go_simp) ?_
                     obtain ⟨w8, hw8⟩ : ∃ w8, w7.setCell ⟨gp, 0, none⟩ (.slice (some ⟨g7, 0, none⟩) (ns.length + 1) cap7) = w8 := ⟨_, rfl⟩
                     rw [hw8] at HS7 ⊢
                     clear hw8 c7 f7))
                simp only [Act.put]
                go_roundw
                case rel => exact ⟨j + 1, _, vx, ns ++ [byts y], xs, e, by omega, rfl, HS7.out, HST.out, ⟨by rw [List.length_append, List.length_singleton]; have := hLN.out.1; omega, by have := hLN.out.2; omega⟩⟩
                case measure => simp only [World.iterPos, HS7.out.iter, hRS.out.iter]; omega
            · have hst := args_at_n (ns := ns) (xs := xs) (e := e) h87 hfc hyb
              rw [hAR.out] at hst
              have hr87 : ((c.toNat : Int) == 87) = false := by
                simp
                intro e0
                exact h87 (UInt8.toNat_inj.1 (by simpa using by omega))
              have HNU : Hid (Calls Tryz.prog 84 #[.string y, .int .i64 3] wa fun e w' => e = .returned (numV (numOf (byts y) 3)) ∧ Below wa.heap.size wa w') := number_any y 3 (by decide) wa
              cases hnm : numOf (byts y) 3 with
              | none =>
                rw [hnm] at HNU hst
                have hRR : Hid (R = .tuple #[.nilIface, .int .i64 9]) := by rw [Hid, ← HRT.out, hst]; rfl
                clear hst hnm hfc hyb hy hcl
                go_wp2_with (go_at_call 84; (with_reducible refine HNU.out.mono ?_); rintro e5 w5 ⟨rfl, hb5⟩; rw [show numV none = .tuple #[.int .i64 0, .bool false] from rfl])
                go_ret2
                exact ⟨by rw [hRR.out]; rfl, HBW.out _ hb5⟩
              | some q =>
                rw [hnm] at HNU hst
                have hq := num_le hnm
                have HFI := Lib.hid (fun w' => fits_any c (by rcases hcl with h | h | h | h | h; exact absurd h h87; exact Or.inl h; exact Or.inr (Or.inl h); exact Or.inr (Or.inr (Or.inl h)); exact Or.inr (Or.inr (Or.inr h))) q w')
                have HST : Hid (argsP ((formP k).drop (j + 1)) ((rest.map byts).drop (j + 1)) ns (xs ++ [q]) (if fitsK c q then e else 1) = T) := hst.symm
                obtain ⟨b, hb⟩ : ∃ b, fitsK c q = b := ⟨_, rfl⟩
                rw [hb] at HFI HST
                clear hst hnm hfc hyb hy hcl hb
                cases b
                all_goals
                  go_wp2_with (first
                    | (go_at_call 84; (with_reducible refine HNU.out.mono ?_)
                       rintro e5 w5 ⟨rfl, hb5⟩
                       rw [show numV (some q) = .tuple #[.int .i64 (q : Int), .bool true] from rfl]
                       have HS5 := Lib.hid (HSA.out.callee hb5)
                       have c5 : w5.cell? ⟨gp, 1, none⟩ = some vx := HS5.out.bp.at_ 1 rfl)
                    | (go_at_call 124; (with_reducible refine (HFI.out _).mono ?_); rintro e6 w6 ⟨rfl, hw6⟩; replace hw6 := hw6.symm; subst hw6)
                    | (with_reducible show wpList _ _ _ (⟨_, .buildSlice 40 _ _, _, _, _, _⟩ :: _) _ _
                       refine wpList_lit1 rfl 40 3 _ (.int .i64 (q : Int)) rfl rfl (lit_int q) ?_
                       intro w6 g6 hG6 hgr6 hge6
                       have HS6 := Lib.hid (HS5.out.callee (below_grown hgr6))
                       have HB6 : Hid (Below wa.heap.size wa w6) := hb5.trans ((below_grown hgr6).mono hb5.size))
                    | (at_builtin
                       refine wpList_push rfl _ _ rfl rfl HS6.out.ox g6 1 (q : Int) rfl hG6 (by rw [Dr.natI_length]; omega) HS6.out.os.2.2.2 ?_
                       intro g7 cap7 w7 hO7 hgr7 hat7 hlt7
                       have ho7 : OwnI w7 w4.heap.size (.slice (some ⟨g7, 0, none⟩) ((Dr.natI xs).length + 1) cap7) (Dr.natI (xs ++ [q])) := by
                         rw [Dr.natI_append]; exact hO7
                       have HS7 := Lib.hid (HS6.out.pushX ho7 hgr7)
                       have c7 : w7.cell? ⟨gp, 1, none⟩ = some vx := by
                         have hb : Blk w7 gp _ #[vn, vx] := (hgr7.block gp (by have := HS6.out.lt.1; have := HS6.out.os.2.2.2; omega) (fun e => by have := HS6.out.ox.ge e.symm; have := HS6.out.lt.1; omega)).trans HS6.out.bp
                         exact hb.at_ 1 rfl
                       have f7 : w7.frozen? ⟨gp, 1, none⟩ = false := by
                         have hb : Blk w7 gp _ #[vn, vx] := (hgr7.block gp (by have := HS6.out.lt.1; have := HS6.out.os.2.2.2; omega) (fun e => by have := HS6.out.ox.ge e.symm; have := HS6.out.lt.1; omega)).trans HS6.out.bp
                         exact hb.frozen 1
                       clear hO7 ho7 hgr7 hat7 hlt7 hG6 hgr6 hge6 c5)
                    | (with_reducible show wpList _ _ _ (⟨_, .store 40 _ _, _, _, _, _⟩ :: _) _ _
                       refine wpList_setcellC rfl 40 _ _ rfl gp 1 (.slice (some ⟨g7, 0, none⟩) ((Dr.natI xs).length + 1) cap7) rfl rfl (by go_simp) ?_
                       obtain ⟨w8, hw8⟩ : ∃ w8, w7.setCell ⟨gp, 1, none⟩ (.slice (some ⟨g7, 0, none⟩) ((Dr.natI xs).length + 1) cap7) = w8 := ⟨_, rfl⟩
                       rw [hw8] at HS7 ⊢
                       clear hw8 c7 f7))
                  simp only [Act.put]
                  go_roundw
                  case rel => exact ⟨j + 1, vn, _, ns, xs ++ [q], _, by omega, rfl, HS7.out, HST.out, ⟨by have := hLN.out.1; omega, by rw [List.length_append, List.length_singleton]; have := hLN.out.2; omega⟩⟩
                  case measure => simp only [World.iterPos, HS7.out.iter, hRS.out.iter]; omega
          · obtain rfl : j = fm.size := by omega
            have hT2 : T = (e, ns, xs) := by
              rw [← hAR.out, List.drop_of_length_le (by rw [hfl]; exact Nat.le_refl _), args_end]
            have hRT := HRT.out
            rw [hT2] at hRT
            have hnx : ∀ ty, (Instr.next (.pointer (some ⟨it, 0, none⟩)) true ty).run Tryz.prog wr = _ := fun ty => Lib.run_next_end_at wr it fm fm.size ty hRS.out.iter hlt2
            have HBW : Hid (∀ w', Below wr.heap.size wr w' → Below w.heap.size w w') := fun w' hb => ((hRS.out.below HB4.out HGQ.out.1 (by have := HGQ.out; omega)).trans (hb.mono (Nat.le_trans HB4.out.size hRS.out.os.2.2.2)))
            by_cases he : e = 0
            · subst he
              have hRR : Hid (R = .tuple #[ifaceD (madeP k ns xs), .int .i64 0]) := by rw [Hid, ← hRT]; rfl
              have hkf := kindF_fn hk0 hk9
              have HEN := kindFn_enters hk0 hk9
              have hTA := args_form hk0 hk9 (ws := rest.map byts) (by rw [List.length_map, hfl]; exact HRL.out) (ns := ns) (xs := xs) (by rw [HT.out]; exact hT2)
              have HMA := Lib.hid (made_any (w := wr) hk0 hk9 hTA.1 hTA.2 (ownS_mono0 hRS.out.on) (own_mono0 hRS.out.ox))
              obtain ⟨gk, hgk⟩ : ∃ gk, kindFn k = gk := ⟨_, rfl⟩
              rw [hgk] at hkf HEN HMA
              have hBP := hRS.out.bp
              clear hgk hTA hRT hT2
              go_wp2_with (first
                | (with_reducible show wpList _ _ _ (⟨_, .load 174 _, _, _, _, _⟩ :: _) _ _
                   refine wpList_load_blk rfl 174 _ rfl gp rfl 174 #[vn, vx] _ hBP Tryz.underlying174 rfl info_parsed ?_)
                | (go_at_fn gk; refine HMA.out.mono ?_; rintro e9 w9 ⟨rfl, hb9⟩))
              go_ret2
              exact ⟨by rw [hRR.out]; rfl, HBW.out _ hb9⟩
            · have hRR : Hid (R = .tuple #[.nilIface, .int .i64 e]) := by
                rw [Hid, ← hRT, if_pos he]
                unfold readR
                rw [if_neg he]
              have he1 : (e != 0) = true := by simpa using he
              clear hRT hT2
              go_wp2_with (fail)
              go_ret2
              exact ⟨by rw [hRR.out]; rfl, HBW.out _ (Below.refl _ _)⟩
      · have hnl : ((i : Int) != (fm.size : Int) + 1) = true := by simp; omega
        have hRR : Hid (R = .tuple #[.nilIface, .int .i64 5]) := by
          rw [Hid, ← HR2.out, if_neg hk0, if_pos (by rw [List.length_map, hfl]; have := HLR.out; omega)]
          rfl
        go_wp2_with (go_at_call 122; (with_reducible refine HKI.out.mono ?_); rintro e w2 ⟨rfl, hw2⟩; replace hw2 := hw2.symm; subst hw2)
        go_ret2
        exact ⟨by rw [hRR.out]; rfl, HB.out⟩
end Dr
end Go.Proofs.YtbgakdpbglpfaaaGreatDoor
-- the text DrMa
namespace Go.Proofs.YtbgakdpbglpfaaaGreatDoor
open Go.RowKit
namespace Dr
set_option linter.unusedSimpArgs false
theorem read_any (s : ByteArray) (w : World) (m : Int) (hm : w.cell? ⟨3, 0, none⟩ = some (.int .i64 m)) : Calls Tryz.prog 92 #[.string s] w fun e w' => e = .returned (readR (readP s)) ∧ Below w.heap.size w w' := by
  by_cases h : s.size ≤ 40
  · exact read_short s h w m hm
  · exact read_long s (by omega) w
theorem ask_do (D : Deed) (x : Value) (w : World) : (callMethod (.iface (deedT D) (deedV D)) "aigrette/dresser.do" #[x]).run Tryz.prog w = .ok (.enter (deedF D) #[deedV D, x]) w := by
  cases D <;> kernel_rfl
theorem nil_do (D : Deed) (w : World) : (nilAhead 379 (deedT D) (deedV D) "aigrette/dresser.do").run Tryz.prog w = .ok (some false) w := by
  cases D <;> kernel_rfl
theorem wp_ask {o : Oper} {a : Act} {w : World} {K : Act → World → Prop} {Q : Exit → Act → World → Prop} (D : Deed) (recv arg : Operand) (t : TypeId) (x : Value) (ho : o.op = .call { callee := .invoke recv "aigrette/dresser.do", args := #[arg], argTypes := #[t] }) (hr : a.eval recv = .iface (deedT D) (deedV D)) (ha : a.eval arg = x)
    {R : Ending → World → Prop} (h : Calls Tryz.prog (deedF D) #[deedV D, x] w R) (hk : ∀ e w', R e w' → ∃ v, e = .returned v ∧ K (a.put o.dst v) w') : o.wp Tryz.prog a w K Q := by
  refine wp_enterK (deedF D) #[deedV D, x] ?_ h hk
  unfold execOp
  simp only [ho, resolve, invoke, Sem.run_bind, Sem.run_pure, Result.andThen_ok, List.map_toArray, List.map_cons, List.map_nil, hr, ha]
  exact ask_do D x w
theorem zero_errno (w : World) : (zeroValue 28).run Tryz.prog w = .ok (.int .i64 0) w := Tryz.zeroValue28 w
theorem lt_cell {w : World} {g i : Nat} {v : Value} (h : w.cell? ⟨g, i, none⟩ = some v) : g < w.heap.size := by
  unfold World.cell? at h
  by_cases hg : g < w.heap.size
  · exact hg
  · simp [Array.getElem?_eq_none (show w.heap.size ≤ g by omega)] at h
theorem results_errno {fn : Func} {p : Tmp} (h : fn.results = #[.cell p 28]) (tmps : Array Value) {w : World} {g : Nat} {E : Int} (hp : tmps.getD p undef = .pointer (some ⟨g, 0, none⟩)) (hc : w.cell? ⟨g, 0, none⟩ = some (.int .i64 E)) :
    (results fn tmps).run Tryz.prog w = .ok (.int .i64 E) w := by
  have hp' : tmps[p]?.getD undef = .pointer (some ⟨g, 0, none⟩) := by simpa using hp
  simp only [results, h]
  have hu := Tryz.underlying28
  simp [hp', asAddr, go_sem, hc]
/-- the book in memory -/
structure BookAt (w : World) (V : Vals) (gb : Nat) (vl : Value) (B : Book) : Prop where
  house : HouseAt w V B.house
  bk : Blk w gb 39 #[V .house, vl]
  lines : OwnT w vl B.lines
  nb : ¬ Foot V gb
  nl : ∀ g, blkOf vl = some g → ¬ Foot V g
section
variable {w : World} {V : Vals} {gb : Nat} {vl : Value} {B : Book}
set_option maxRecDepth 100000 in
theorem none_no {gh : Nat} (h : Blk w gb 39 #[.pointer (some ⟨gh, 0, none⟩), vl]) : Calls Tryz.prog 60 #[.pointer (some ⟨gb, 0, none⟩)] w fun e w' => e = .returned (.bool false) ∧ w' = w := by
  have c0 : w.cell? ⟨gb, 0, none⟩ = some (.pointer (some ⟨gh, 0, none⟩)) := h.at_ 0 rfl
  go_enter Tryz.func60, Tryz.ntmps60
  go_wp2_with (fail)
  go_ret
  exact ⟨rfl, rfl⟩
theorem frm_end {w w5 w6 w9 : World} {V V' : Vals} (HB5 : Below w.heap.size w w5) (HF : Frm (Foot V) w5 (Foot V') w6) (hst : ∀ i, i < w.heap.size → w9.heap[i]? = w6.heap[i]?) (hx : w9.os = w6.os ∧ w9.tape = w6.tape ∧ w9.output = w6.output ∧ w6.heap.size ≤ w9.heap.size) : Frm (Foot V) w (Foot V') w9 :=
  ⟨hx.1.trans (HF.os.trans HB5.os), hx.2.1.trans (HF.tape.trans HB5.tape), hx.2.2.1.trans (HF.output.trans HB5.output), by have := HB5.size; have := HF.size; omega,
    fun i hi hn => (hst i hi).trans ((HF.block i (by have := HB5.size; omega) hn).trans (HB5.block i hi)), fun i hi => (HF.foot i hi).imp id (fun h => by have := HB5.size; omega)⟩
theorem not_foot {w w5 w6 : World} {V V' : Vals} {S : House} (H : HouseAt w V S) (HF : Frm (Foot V) w5 (Foot V') w6) {g : Nat} (h1 : w.heap.size ≤ g) (h2 : g < w5.heap.size) : ¬ Foot V' g := fun hf => by
  rcases HF.foot g hf with h | h
  · have := H.lt h
    omega
  · omega
/-- what try leaves -/
def TryPost (V : Vals) (_S0 S : House) (w : World) (R : Int) (e : Ending) (w' : World) : Prop :=
  e = .returned (.int .i64 R) ∧ ∃ V', HouseAt w' V' S ∧ V' .house = V .house ∧ Frm (Foot V) w (Foot V') w'
set_option maxRecDepth 100000 in
set_option maxHeartbeats 4000000 in
theorem try_bad (H : BookAt w V gb vl B) (m : Int) (hm : w.cell? ⟨3, 0, none⟩ = some (.int .i64 m)) (line : ByteArray) (stay : Bool) (E : Int) (hE : E ≠ 0) (hr : readR (readP line) = .tuple #[.nilIface, .int .i64 E]) :
    Calls Tryz.prog 64 #[.pointer (some ⟨gb, 0, none⟩), .string line, .bool stay] w fun e w' => e = .returned (.int .i64 E) ∧ Below w.heap.size w w' := by
  obtain ⟨gh, hV, hBh⟩ := H.house.hs
  have hbk := H.bk
  rw [hV] at hbk
  have HNO : Hid (∀ w', Below w.heap.size w w' → Calls Tryz.prog 60 #[.pointer (some ⟨gb, 0, none⟩)] w' fun e w2 => e = .returned (.bool false) ∧ w2 = w') := fun w' hb => none_no (hbk.callee hb)
  have HRD : Hid (∀ w', Below w.heap.size w w' → Calls Tryz.prog 92 #[.string line] w' fun e w2 => e = .returned (.tuple #[.nilIface, .int .i64 E]) ∧ Below w'.heap.size w' w2) := fun w' hb => by
    rw [← hr]
    refine read_any line w' m ((hb.cell (p := ⟨_, 0, none⟩) ?_).trans hm)
    exact lt_cell hm
  have hE2 : (E != 0) = true := by simpa using hE
  clear hr hE hV hBh H hbk hm
  go_enter_defers Tryz.func64, Tryz.ntmps64
  go_wp2_with (first
    | (with_reducible show wpList _ _ _ (⟨_, .box 4 _, _, _, _, _⟩ :: _) _ _
       refine wpList_box_cells rfl 4 _ rfl (.bool stay) #[.bool stay] rfl rfl ?_
       intro w1 g1 hG1 hgr1 hge1
       have hb1 := below_grown hgr1)
    | (with_reducible show wpList _ _ _ (⟨_, .alloc 28, _, _, _, _⟩ :: _) _ _
       refine wpList_alloc_oneC rfl 28 (.int .i64 0) rfl zero_errno rfl ?_
       intro w2 g2 hG2 hgr2 hge2
       have hb2 := hb1.trans ((below_grown hgr2).mono hb1.size))
    | (go_at_call 60; (with_reducible refine (HNO.out _ hb2).mono ?_); rintro e w3 ⟨rfl, hw3⟩; replace hw3 := hw3.symm; subst hw3)
    | (go_at_call 92; (with_reducible refine (HRD.out _ hb2).mono ?_)
       rintro e w4 ⟨rfl, hb4⟩
       have c4 : w4.cell? ⟨g2, 0, none⟩ = some (.int .i64 0) := (hG2.callee hb4).at_ 0 rfl
       have f4 := (hG2.callee hb4).frozen 0))
  have HB := hb2.trans (hb4.mono hb2.size)
  have HG : Blk ((w4.setCell ⟨g2, 0, none⟩ (.int .i64 E)).setCell ⟨g2, 0, none⟩ (.int .i64 E)) g2 28 #[.int .i64 E] := by
    have h := ((hG2.callee hb4).set_ 0 (.int .i64 E)).set_ 0 (.int .i64 E)
    exact h
  refine ⟨.int .i64 E, results_errno rfl _ rfl (HG.at_ 0 rfl), rfl, ?_⟩
  have hn : w.heap.size ≤ g2 := Nat.le_trans hb1.size hge2
  exact (HB.setCell hn _).setCell hn _
end
end Dr
end Go.Proofs.YtbgakdpbglpfaaaGreatDoor
