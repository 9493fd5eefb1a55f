/- The reference's Pairs. -/
import Derived.Test.YtfcfhiekkpflcaaDoorRefF0
import Derived.Test.YtfcfhiekkpflcaaDoorRefA
namespace Go.Proofs.YtfcfhiekkpflcaaDoor
open Go.RowKit
theorem infoBool : (Tryd.prog.info? 4).map (fun i => (i.zero, i.size, i.bytes)) = some (some (.bool false), 1, 1) := by kernel_rfl
def bools (tk : List Bool) : Array Value := (tk.map Value.bool).toArray
theorem bools_at {tk : List Bool} {k : Nat} {x : Bool} (h : tk[k]? = some x) : (bools tk)[k]? = some (.bool x) := by simp [bools, h]
theorem bools_set (tk : List Bool) (k : Nat) (x : Bool) : (bools tk).setIfInBounds k (.bool x) = bools (tk.set k x) := by simp [bools, List.map_set]
theorem bools_made (n : Nat) : madeCells #[Value.bool false] n = bools (List.replicate n false) := by
  apply Array.toList_inj.1
  rw [toList_madeCells_one]
  simp [bools]
theorem make_bools (n : Nat) (hn : n ≤ 1000) (w : World) : ∃ w1 : World, (Instr.makeSlice 80 (.int .i64 (n : Int)) (.int .i64 (n : Int))).run Tryd.prog w = .ok (.slice (some ⟨w.heap.size, 0, none⟩) n n) w1 ∧ Blk w1 w.heap.size 4 (bools (List.replicate n false)) ∧ w.grownBy w1 none := by
  obtain ⟨i0, hi0, hz0, hz1, hz2⟩ := info_parts infoBool
  have hm := run_makeSlice (P := Tryd.prog) w 80 4 i0 (.bool false) Tryd.underlying80 hi0 hz0 .i64 .i64 n n (by omega) (Int.le_refl _) (by rw [hz1]; omega) (by rw [hz2]; omega) (by omega)
  rw [hz1, Int.toNat_natCast, Nat.mul_one] at hm
  rw [← bools_made]
  exact ⟨_, hm, Blk.new w 4 _, World.grownBy_alloc w _ none⟩
theorem pairE_coin (l : Word) : pairE l = coinE l 0 := by
  unfold pairE coinE opT
  by_cases h : chkT l = 0
  · rw [h]; simp
  · simp [h]
set_option maxRecDepth 100000 in
set_option maxHeartbeats 4000000 in
theorem rPairs_any (s : ByteArray) (w : World) : Calls Tryd.prog 34 #[.string s] w (RetPE (pairL (bts s)) (pairE (bts s)) w) := by
  obtain ⟨k, hk⟩ : ∃ k, coinE (bts s) 0 = k := ⟨_, rfl⟩
  have hkH := Lib.hid hk
  rw [pairE_coin, hk]
  by_cases h0 : k = 0
  · subst h0
    obtain ⟨hk0, hk1⟩ := coinE_zero hk
    obtain ⟨h1, h2, h3⟩ := opT_zero hk0
    obtain ⟨h4, h5⟩ := chkT_zero h1
    rw [bts_len] at h4
    obtain ⟨R, hR⟩ : ∃ R, pairT (bts s) 0 [] = R := ⟨_, rfl⟩
    have hL := Lib.hid (show pairL (bts s) = R by unfold pairL; rw [if_pos ⟨h1, hk1⟩, hR])
    have hRH := Lib.hid (show [] ++ pairT ((bts s).drop 0) 0 [] = R from hR)
    have hend := Lib.hid (fun i hi => lacks_end (l := bts s) (b := 0) hk1 (i := i) hi)
    have hokH := Lib.hid h5
    have hH0 := Lib.hid (Heap.nil (bts s))
    rw [bts_len] at hH0
    obtain ⟨wm, hmk, hBm, hgm⟩ := make_bools s.size (by omega) w
    have hbm := below_none (Below.refl w.heap.size w) hgm (Nat.le_refl _)
    rw [hL.out]
    clear hk hk0 hk1 h1 h5 hR hgm
    go_enter Tryd.func34, Tryd.ntmps34
    go_wp2_with (first
      | (go_at_call 50; (with_reducible refine (good_any _ _ _).mono ?_); rintro e wz ⟨rfl, hwz⟩; replace hwz := hwz.symm; subst hwz; rw [hkH.out]))
    clear hmk
    go_loopw [5, 7, 8] (fun o5 v _ wr => ∃ (pos : Nat) (st : List Nat) (P : List (Nat × Nat)) (tk : List Bool), pos ≤ s.size ∧ v = .int .i64 pos ∧ Hid ((st.length : Int) = endT 0 ((bts s).take pos)) ∧ P.length ≤ pos ∧ Hid (Heap (bts s) pos st tk) ∧ Hid (P ++ pairT ((bts s).drop pos) pos st = R) ∧ OwnP wr w.heap.size o5 P ∧ Blk wr w.heap.size 4 (bools tk) ∧ Below w.heap.size w wr) (fun _ v _ _ => s.size - (intOf v).toNat)
    case atStart => exact ⟨0, [], [], _, by omega, rfl, Lib.hid rfl, by simp, hH0, hRH, OwnP.nil _ _, hBm, hbm⟩
    case round =>
      obtain ⟨pos, st, P, tk, hpos, rfl, hst, hPl, hHp, hL', hoP, hB, hbe⟩ := hrel
      obtain ⟨wa, rfl⟩ : ∃ x, x = wr := ⟨wr, rfl⟩
      by_cases hp : pos < s.size
      · have hpi : (pos : Int) < s.size := by omega
        have hat := bts_at s pos hp
        have hyy := okT_at hokH.out (List.mem_of_getElem? hat)
        have hd : (bts s).drop pos = s[pos] :: (bts s).drop (pos + 1) := by
          have hl : pos < (bts s).length := by rw [bts_len]; exact hp
          rw [List.drop_eq_getElem_cons hl]
          rfl
        have hend2 := hend.out pos (by rw [bts_len]; exact hp)
        have het : endT 0 ((bts s).take (pos + 1)) = stp st.length s[pos] := by rw [List.take_add_one, hat, Option.toList_some, end_snoc, ← hst.out]
        rw [het] at hend2
        have hLo := hL'.out
        rw [hd] at hLo
        rcases hyy with hy | hy
        · rw [hy] at het hLo hat
          have hN := Lib.hid (show P ++ pairT ((bts s).drop (pos + 1)) (pos + 1) (st ++ [pos]) = R by rw [← hLo, pairT, if_pos rfl])
          have hst1 := Lib.hid (show ((st ++ [pos]).length : Int) = endT 0 ((bts s).take (pos + 1)) by rw [het]; simp [stp])
          have hH1 := Lib.hid (hHp.out.coin hat)
          have hg : ((s[pos].toNat : Int) == 110) = false := by rw [hy]; rfl
          clear hLo hd het hend2 hy hat
          go_wp2_with (fail)
          go_roundw
          case rel => exact ⟨pos + 1, st ++ [pos], P, tk, by omega, by go_num, hst1, by omega, hH1, hN, hoP, hB, hbe⟩
          case measure => simp only [intOf]; omega
        · rw [hy] at het hLo hend2 hat
          have h110 : stp (st.length : Int) 110 = (st.length : Int) - 1 := rfl
          rw [h110] at hend2 het
          obtain ⟨st0, t, rfl⟩ : ∃ st0 t, st = st0 ++ [t] := by
            have hne : st ≠ [] := by
              intro e
              rw [e] at hend2
              simp at hend2
            exact ⟨st.dropLast, st.getLast hne, (List.dropLast_concat_getLast hne).symm⟩
          have hN := Lib.hid (show (P ++ [(t, pos)]) ++ pairT ((bts s).drop (pos + 1)) (pos + 1) st0 = R by rw [← hLo, pairT, if_neg (by decide)]; simp)
          have hst1 := Lib.hid (show (st0.length : Int) = endT 0 ((bts s).take (pos + 1)) by rw [het]; simp)
          have hH1 := Lib.hid (hHp.out.note hat)
          obtain ⟨htp, htc, htf⟩ := hHp.out.top
          have hts : t < s.size := by omega
          have htc' : s[t] = 99 := by
            have := bts_at s t hts
            rw [htc] at this
            injection this with this
            exact this.symm
          have habove := Lib.hid (fun (j : Nat) h1 h2 h3 => hHp.out.above (j := j) h1 h2 h3)
          have hset := Lib.hid (bools_set tk t true)
          have hct : wa.cell? ⟨w.heap.size, t, none⟩ = some (.bool false) := (hB.cell t).trans (bools_at htf)
          have hfz : wa.frozen? ⟨w.heap.size, t, none⟩ = false := hB.frozen t
          have hBn := hB.set_ t (.bool true)
          rw [hset.out] at hBn
          have hben := hbe.setCell (p := ⟨w.heap.size, t, none⟩) (Nat.le_refl _) (.bool true)
          have hg : ((s[pos].toNat : Int) == 110) = true := by rw [hy]; rfl
          have hgt : ((s[t].toNat : Int) == 110) = false := by rw [htc']; rfl
          obtain ⟨wn, hwn⟩ : ∃ wn, wa.setCell ⟨w.heap.size, t, none⟩ (.bool true) = wn := ⟨_, rfl⟩
          have hPn := hoP.keep (w' := wn) fun g hg => by
            rw [← hwn]
            exact Below.heap_setCell wa _ _ g (fun e => own_blk_ne hoP hB (by decide) (by rw [hg, e]))
          clear hLo hd het hend2 hy hat htc htf htc' hset
          go_wp2_with (fail)
          go_loopw [8] (fun v wr2 => ∃ j : Nat, t ≤ j ∧ j < pos ∧ v = .int .i64 j ∧ wa = wr2) (fun v _ => (intOf v).toNat)
          case atStart => exact ⟨pos - 1, by omega, by omega, by go_num, rfl⟩
          case round =>
            obtain ⟨j, hj1, hj2, rfl, hw2⟩ := hrel
            subst hw2
            by_cases hjt : j = t
            · subst hjt
              rw [hwn] at hBn hben
              go_wp2_with (first
                | (at_builtin
                   refine wpList_pushP rfl _ _ rfl rfl (hPn.none_ (World.grownBy_alloc wn (.cells #[.int .i64 (j : Nat), .int .i64 (pos : Nat)] 52) none)) wn.heap.size 1 j pos rfl (Blk.new wn _ _) (by omega) (by have := hben.size; show _ ≤ (wn.heap.push _).size; simp; omega) ?_
                   intro v6 w6 ho6 hgr6
                   have hP1 := hPn.none_ (World.grownBy_alloc wn (.cells #[.int .i64 (j : Nat), .int .i64 (pos : Nat)] 52) none)
                   have hb6 := (hben.alloc hben.size (.cells #[.int .i64 (j : Nat), .int .i64 (pos : Nat)] 52)).grown hgr6 (by have := hben.size; show _ ≤ (wn.heap.push _).size; simp; omega) (fun g hg => hP1.ge hg)
                   have hB1 := hBn.none_ (World.grownBy_alloc wn (.cells #[.int .i64 (j : Nat), .int .i64 (pos : Nat)] 52) none)
                   have hB6 := hB1.grown hgr6 (fun e => own_blk_ne hP1 hB1 (by decide) e.symm)))
              go_roundw
              case rel => exact ⟨pos + 1, st0, P ++ [(j, pos)], _, by omega, by go_num, hst1, by simp; omega, hH1, hN, ho6, hB6, hb6⟩
              case measure => simp only [intOf]; omega
            · have hjs : j < s.size := by omega
              have hatj := bts_at s j hjs
              rcases okT_at hokH.out (List.mem_of_getElem? hatj) with hy | hy
              · have hgj : ((s[j].toNat : Int) == 110) = false := by rw [hy]; rfl
                have hcj : wa.cell? ⟨w.heap.size, j, none⟩ = some (.bool true) := (hB.cell j).trans (bools_at (habove.out j (by omega) hj2 (by rw [hatj, hy])))
                clear hy hatj
                go_wp2_with (fail)
                go_roundw
                case rel => exact ⟨j - 1, by omega, by omega, by go_num, by first | rfl | trivial⟩
                case measure => simp only [intOf]; omega
              · have hgj : ((s[j].toNat : Int) == 110) = true := by rw [hy]; rfl
                clear hy hatj
                go_wp2_with (fail)
                go_roundw
                case rel => exact ⟨j - 1, by omega, by omega, by go_num, by first | rfl | trivial⟩
                case measure => simp only [intOf]; omega
      · have hpi : ¬ (pos : Int) < s.size := by omega
        have hPR := Lib.hid (show P = R by
          have := hL'.out
          rw [List.drop_of_length_le (by rw [bts_len]; omega), pairT, List.append_nil] at this
          exact this)
        rw [hPR.out] at hoP
        go_wp2_with (fail)
        go_ret2
        exact ⟨_, rfl, hoP, hbe⟩
  · have hL := Lib.hid (show pairL (bts s) = [] by
      unfold pairL
      rw [if_neg]
      rintro ⟨h1, h2⟩
      unfold coinE opT at hk
      rw [h1] at hk
      simp [h2] at hk
      exact h0 hk.symm)
    have hk0 : (k != 0) = true := by simp [h0]
    rw [hL.out]
    clear hk
    go_enter Tryd.func34, Tryd.ntmps34
    go_wp2_with (first
      | (go_at_call 50; (with_reducible refine (good_any _ _ _).mono ?_); rintro e wz ⟨rfl, hwz⟩; replace hwz := hwz.symm; subst hwz; rw [hkH.out]))
    go_ret2
    exact ⟨_, rfl, OwnP.nil _ _, Below.refl _ _⟩
end Go.Proofs.YtfcfhiekkpflcaaDoor
