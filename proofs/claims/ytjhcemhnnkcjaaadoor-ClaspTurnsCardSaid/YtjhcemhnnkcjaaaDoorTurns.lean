/- Turns of the program: a list of turns is returned. -/
import Derived.Test.YtjhcemhnnkcjaaaDoorTurnsP
import Derived.Test.YtjhcemhnnkcjaaaDoorMoves
import Derived.Test.YtjhcemhnnkcjaaaDoorRing
import Derived.Deep.LoopGhost
namespace Go.Proofs.YtjhcemhnnkcjaaaDoor
open Go.RowKit
theorem coupA_blk {w : World} {g s : Nat} {r a : Nat → Nat} (h : Blk w g 88 (coupA r a)) (hs : s < 2) : w.cell? ⟨g, s, none⟩ = some (.int .i64 (r s)) ∧ w.cell? ⟨g, 2 + s, none⟩ = some (.int .i64 (a s)) :=
  ⟨by rw [h.cell, coupA_r hs], by rw [h.cell, coupA_a hs]⟩
theorem info_coupA (r a : Nat → Nat) : (Tryd.prog.info? 88).map (·.size) = some (coupA r a).size := info_coup _ _ _ _
theorem coupA_one (r a : Nat → Nat) : (coupA r a).all (·.oneCell') = true := coupC_one _ _ _ _
theorem turn_pows {R : Nat} (h : R ≤ 6) : ∃ T : Nat, T = 2 ^ R - 1 ∧ T < 64 ∧ 2 ^ R ≤ 64 ∧ wrap64 (2 ^ R) = ((2 ^ R : Nat) : Int) ∧ IntKind.i64.wrap (2 ^ R) = ((2 ^ R : Nat) : Int) ∧ IntKind.i64.wrap ((2 : Int) ^ R - 1) = (T : Int) ∧ (2 : Int) ^ R - 1 = (T : Int) := by
  have h16 : 2 ^ R ≤ 64 := Nat.pow_le_pow_right (by omega : 0 < 2) h
  have hp : 0 < 2 ^ R := Nat.pow_pos (by omega)
  have hw0 : wrap64 (2 ^ R) = ((2 ^ R : Nat) : Int) := wrap64_pow (by omega)
  have hw0' : IntKind.i64.wrap (2 ^ R) = ((2 ^ R : Nat) : Int) := by rw [IntKind.wrap_i64]; rw [← hw0, wrap64]
  refine ⟨2 ^ R - 1, rfl, by omega, h16, hw0, hw0', ?_⟩
  have hpc : (2 : Int) ^ R = ((2 ^ R : Nat) : Int) := by push_cast; rfl
  rw [hpc]
  generalize 2 ^ R = P at *
  clear hw0 hw0' hpc
  exact ⟨by rw [IntWalk.i64_in _ (by omega)]; omega, by omega⟩
set_option maxRecDepth 100000 in
set_option maxHeartbeats 4000000 in
theorem Turns_ok (A B : Option Addr) (n m c d : Nat) (xs ys : List Int) (w : World) (ha : RInts w w.heap.size A n xs) (hb : RInts w w.heap.size B m ys) (hn : n ≤ maxLen) (hm : m ≤ maxLen) (hT : Tab w) (hx : pairE xs ys = 0) :
    Calls Tryd.prog 37 #[.agg (pairC A n c B m d)] w (RetL (turnsGo (pairR xs.length ys.length) (fewN (numS xs) (numS ys)) 0 (pairR (numS xs) (numS ys))) 0 w) := by
  have hX := Lib.hid hx
  have hk := pairE_ok hx
  have hr1 := (chk_zero hk.1).1
  have hr2 := (chk_zero hk.2.1).1
  have hl1 := numS_lt xs
  have hl2 := numS_lt ys
  have hL1 := Lib.hid ha.len
  have hL2 := Lib.hid hb.len
  have h6 := hk.2.2.1
  have h6' := hk.2.2.2
  obtain ⟨F, hF⟩ : ∃ F, F = fewN (numS xs) (numS ys) := ⟨_, rfl⟩
  have hFL : F ≤ 200 := by
    have e1 : 2 ^ xs.length ≤ 2 ^ 6 := Nat.pow_le_pow_right (by omega) h6
    have e2 : 2 ^ ys.length ≤ 2 ^ 6 := Nat.pow_le_pow_right (by omega) h6'
    have e3 : (2 : Nat) ^ 6 = 64 := rfl
    rw [hF]; unfold fewN; split <;> omega
  have hna := numS_16 h6
  have hnb := numS_16 h6'
  have hop := few_opens (numS xs) (numS ys) (pairR (numS xs) (numS ys)) rfl rfl
  rw [← hF] at hop
  have hrr : Hid (∀ s, s < 2 → 1 ≤ pairR xs.length ys.length s ∧ pairR xs.length ys.length s ≤ 6) := Lib.hid (by intro s _; unfold pairR; split <;> omega)
  have hal : Hid (∀ s, s < 2 → pairR (numS xs) (numS ys) s < 2 ^ pairR xs.length ys.length s) := Lib.hid (by intro s _; unfold pairR; split <;> assumption)
  have hop := Lib.hid hop
  rw [← hF]
  have hE : coupC (n : Int) (m : Int) (numS xs : Nat) (numS ys : Nat) = coupA (pairR xs.length ys.length) (pairR (numS xs) (numS ys)) := by
    show _ = coupC (xs.length : Nat) (ys.length : Nat) (numS xs : Nat) (numS ys : Nat)
    rw [ha.len, hb.len]
  have hE := Lib.hid hE
  obtain ⟨rs, hrs⟩ : ∃ rs, rs = pairR xs.length ys.length := ⟨_, rfl⟩
  obtain ⟨a0, ha0⟩ : ∃ a0, a0 = pairR (numS xs) (numS ys) := ⟨_, rfl⟩
  have hna0 : a0 0 < 65536 := by rw [ha0]; exact hna
  have hnb0 : a0 1 < 65536 := by rw [ha0]; exact hnb
  have hFF0 : Hid (F = fewN (a0 0) (a0 1)) := Lib.hid (by rw [ha0]; exact hF)
  rw [← hrs] at hrr hal hE ⊢
  rw [← ha0] at hal hop hE ⊢
  have hb0 : (pairE xs ys != 0) = false := by simpa using hx
  clear hx hk hr1 hr2 hl1 hl2 h6 h6' hF hrs ha0
  go_enter Tryd.func37, Tryd.ntmps37
  go_wp2_with (first
    | (with_reducible show wpList _ _ _ (⟨some 1, .box 40 _, _, _, _, _⟩ :: _) _ _
       refine wpList_box_blk rfl 40 _ rfl (pairC A n c B m d) rfl ?_
       intro w0 g1 hP1 hg0 hs0
       have hBe0 : Below w.heap.size w w0 := below_none (Below.refl _ _) hg0 (Nat.le_refl _)
       clear hg0)
    | (with_reducible show wpList _ _ _ (⟨_, .load 40 _, _, _, _, _⟩ :: _) _ _
       refine wpList_load_blk rfl 40 _ rfl g1 rfl 40 _ _ hP1 Tryd.underlying40 rfl (info_pair _ _ _ _ _ _) ?_)
    | (go_at_call 64
       refine (opened_any A B n m c d xs ys w0 ((ha.below hBe0).more hBe0.size) ((hb.below hBe0).more hBe0.size) hn hm).mono ?_
       rintro e w1 ⟨r, s, a, b, rfl, hc, hb1⟩
       obtain ⟨rfl, rfl, rfl, rfl⟩ := hc hX.out
       have hBe1 := hBe0.trans (hb1.mono hBe0.size)
       rw [hX.out, hE.out]
       clear hb1 hc hP1)
    | (with_reducible show wpList _ _ _ (⟨_, .alloc 88, _, _, _, _⟩ :: _) _ _
       refine wpList_alloc_blk rfl 88 rfl _ zero_couple ?_
       intro w2 g4 hB2 hg2 hs2
       have hBe2 := below_none hBe1 hg2 hBe1.size)
    | (with_reducible show wpList _ _ _ (⟨_, .store 88 _ _, _, _, _, _⟩ :: _) _ _
       refine wpList_store_blk rfl 88 _ _ rfl g4 (coupA rs a0) rfl rfl 88 (coupC 0 0 0 0) hB2 (info_coupA rs a0) rfl (coupA_one rs a0) ?_
       intro w3 hB3 hg3
       have hgg : w.heap.size ≤ g4 := by have := hBe1.size; omega
       have hBe3 := below_some hBe2 hg3 hBe2.size hgg)
    | (with_reducible show wpList _ _ _ (⟨_, .load 88 _, _, _, _, _⟩ :: _) _ _
       refine wpList_load_blk rfl 88 _ rfl g4 rfl 88 _ _ hB3 Tryd.underlying88 rfl (info_coupA rs a0) ?_
       rw [coupA])
    | (go_at_call 65
       refine (few_any _ _ _ _ hna0 hnb0 _).mono ?_
       rintro e w4 ⟨rfl, hb4⟩
       rw [← hFF0.out]
       have hB4 := hB3.callee hb4
       have hBe4 := hBe3.trans (hb4.mono hBe3.size)))
  clear hBe1 hBe2 hBe3 hB2 hg2 hg3 hb4 hBe0 hs0 hs2 hB3
  go_loopg [7, 6] F (fun q u v wr => ∃ (l : Nat) (a : Nat → Nat) (zs : List Int), Hid (q = l) ∧ u = .int .i64 l ∧ OwnI wr w.heap.size v zs ∧ Blk wr g4 88 (coupA rs a) ∧ Below w.heap.size w wr ∧ Hid (zs.length + l = F) ∧
      Hid (zs ++ turnsGo rs l (zs.length % 2) a = turnsGo rs F 0 a0) ∧ Hid (opensC a (zs.length % 2) l) ∧ Hid (∀ s, s < 2 → a s < 2 ^ rs s))
  case atStart => exact ⟨F, a0, [], Lib.hid rfl, rfl, OwnI.nil _ _, hB4, hBe4, Lib.hid (by simp), Lib.hid rfl, hop, hal⟩
  case round =>
    clear hB4 hBe4 hop hal
    obtain ⟨l, a, zs, hq, rfl, hown, hB, hb3, hlF, htot, hop, hal⟩ := hrel
    obtain ⟨A6, c6, rfl, _⟩ := hown.reads
    have hlen : zs.length ≤ 1000 := by have := hlF.out; omega
    have hll : l ≤ 1000 := by have := hlF.out; omega
    rcases Nat.eq_zero_or_pos l with rfl | hpos
    · have hend : zs = turnsGo rs F 0 a0 := by have := htot.out; rwa [turnsGo, List.append_nil] at this
      have hEnd := Lib.hid hend
      clear hend
      go_wp2_with (fail)
      go_ret2
      rw [← hEnd.out]
      exact RetL_own hown (by omega) hb3
    · obtain ⟨l, rfl⟩ : ∃ l', l = l' + 1 := ⟨l - 1, by omega⟩
      have hT3 := hT.later hb3
      obtain ⟨s, hs⟩ : ∃ s, s = zs.length % 2 := ⟨_, rfl⟩
      rw [← hs] at htot hop
      have hs2 : s < 2 := by omega
      have hmod : ((zs.length : Nat) : Int).tmod 2 = (s : Int) := by rw [Int.tmod_eq_emod_of_nonneg (by omega)]; omega
      have hnext : ∀ x : Int, Hid ((zs ++ [x]).length % 2 = 1 - s) := fun x => Lib.hid (by rw [List.length_append]; simp; omega)
      have hnl : ∀ x : Int, Hid ((zs ++ [x]).length + l = F) := fun x => Lib.hid (by have := hlF.out; rw [List.length_append]; simp; omega)
      obtain ⟨hc0, hc1⟩ := coupA_blk hB hs2
      have hf1 := hB.frozen (2 + s)
      have hR := hrr.out s hs2
      have hat := hal.out s hs2
      have hup := fun (hu : upC (rs s) (a s) l = true) => (opensC_up (R := rs s) hs2 hop.out hu)
      have hdn := fun (hu : upC (rs s) (a s) l = false) => (opensC_down hs2 hR.1 hop.out hu)
      have hal' : ∀ x, x < 2 ^ rs s → Hid (∀ t, t < 2 → upd a s x t < 2 ^ rs t) := fun x hx => Lib.hid (by
        intro t ht
        by_cases e : t = s
        · subst t; rw [upd, if_pos rfl]; exact hx
        · rw [upd, if_neg e]; exact hal.out t ht)
      have htu := fun (hu : upC (rs s) (a s) l = true) => turnsGo_up hu
      have htd := fun (hu : upC (rs s) (a s) l = false) => turnsGo_down hu
      have hset := fun x => coupA_set (r := rs) (a := a) hs2 x
      obtain ⟨R, hRe⟩ : ∃ R, R = rs s := ⟨_, rfl⟩
      obtain ⟨p, hpe⟩ : ∃ p, p = a s := ⟨_, rfl⟩
      rw [← hRe] at hc0 hR hat hup hdn htu htd hal'
      rw [← hpe] at hc1 hat hup hdn htu htd
      obtain ⟨hR1, hR6⟩ := hR
      obtain ⟨T, hTe, hT64, h2R, hws⟩ := turn_pows hR6
      have hws := Lib.hid hws
      obtain ⟨Q, hQe⟩ : ∃ Q, Q = l / 2 := ⟨_, rfl⟩
      have hdiv : (l : Int).tdiv 2 = (Q : Int) := by rw [Int.tdiv_eq_ediv_of_nonneg (by omega)]; omega
      have hQb : Q ≤ 1000 := by omega
      have hTT := Lib.hid hTe
      have hQQ := Lib.hid hQe
      have hP64 : p < 64 := by rw [hpe]; have := hal.out s hs2; rw [← hRe] at this; exact Nat.lt_of_lt_of_le this h2R
      have hRR := Lib.hid hRe
      have hPP := Lib.hid hpe
      have hSS := Lib.hid hs
      have hat := Lib.hid hat
      clear h2R
      have hup := fun hu => Lib.hid (hup hu)
      have hdn := fun hu => Lib.hid (hdn hu)
      clear hTe hQe hRe hpe hs
      obtain ⟨u1, hu1⟩ : ∃ u1, u1 = tz (p + 1) := ⟨_, rfl⟩
      have hring1 := fun (wx : World) (hx : Tab wx) (y : Int) (hy : y = (p : Int)) => Lib.hid (ring_any' y p hy (by omega) wx hx)
      rw [← hu1] at hring1 htu
      have hdnx : ∀ z : Nat, Hid (upC R p l = false → tz p = z → (zs ++ [(z : Int)]) ++ turnsGo rs l ((zs ++ [(z : Int)]).length % 2) (upd a s (p - 1)) = turnsGo rs F 0 a0) := fun z => Lib.hid (by
        intro h e
        have := htot.out
        rw [htd h, e] at this
        rw [(hnext z).out, List.append_assoc]
        exact this)
      have hupx : Hid (upC R p l = true → (zs ++ [(u1 : Int)]) ++ turnsGo rs l ((zs ++ [(u1 : Int)]).length % 2) (upd a s (p + 1)) = turnsGo rs F 0 a0) := Lib.hid (by
        intro h
        have := htot.out
        rw [htu h] at this
        rw [(hnext u1).out, List.append_assoc]
        exact this)
      have hu1' := Lib.hid hu1
      clear htu htd hu1 htot
      by_cases hpT : p < T
      · by_cases hpQ : p + 1 ≤ Q
        · by_cases hp0 : p = 0
          · have hU := Lib.hid (show upC R p l = true by have := hTT.out; have := hQQ.out; rw [hp0]; exact upC_yes0 (by omega) (by omega))
            have hp0' : (p : Int) = 0 := by omega
            have hpT' : (p : Int) < T := by omega
            have hpQ' : (1 : Int) ≤ Q := by omega
            clear hp0 hpT hpQ
            obtain ⟨hw0, hw0', hw1, hw2⟩ := hws.out
            go_wp2_with (fail)
            go_quiet (fail)
            clear hw0 hw0' hw1 hw2
            have hown2 := hown.drewN nq
            have hB2 := hB.drewN nq
            have hb2 := below_drewN hb3 nq
            obtain ⟨wq, hwq⟩ : ∃ wq, wq = wr.drewN nq := ⟨_, rfl⟩
            rw [← hwq] at hown2 hB2 hb2 ⊢
            have hT2 := hT.later hb2
            clear hwq hc0 hc1 hf1 hown hB hb3
            go_wp2_with (first
              | (go_at_call 68
                 first
                 | refine (hring1 _ hT2 _ (by omega)).out.mono ?_
                 | refine (hring0 _ hT2 _ (by omega)).out.mono ?_
                 rintro e w' ⟨rfl, rfl⟩)
              | (at_builtin
                 refine wpList_push rfl _ _ rfl rfl (hown2.none_ (World.grownBy_alloc wq _ none)) wq.heap.size 1 (u1) rfl (Blk.new _ _ _) (by omega) (by simp; have := hb2.size; omega) ?_
                 intro g5 cap5 w5 hown5 hg5 hat5 hlt5
                 have hB5 := (hB2.alloc _).grown hg5 (fun e => (hown2.blk_ne hB2 (by decide)) e.symm)
                 have hbe5 := (hb2.alloc hb2.size _).grown hg5 (by simp; have := hb2.size; omega) (fun j hj => hown2.ge hj)
                 have k1 := (coupA_blk hB5 hs2).2
                 have hf5 := hB5.frozen (2 + s)
                 rw [← hPP.out] at k1))
            have hn5 := hown5.blk_ne hB5 (by decide)
            have hBf := hB5.set_ (2 + s) (.int .i64 (p + 1 : Nat))
            rw [hset] at hBf
            rw [show ((p + 1 : Nat) : Int) = 1 by omega] at hBf
            go_roundg l
            case rel => exact ⟨l, upd a s (p + 1), zs ++ [(u1 : Int)], Lib.hid rfl, rfl, hown5.set_ (p := ⟨g4, 2 + s, none⟩) hn5 _, hBf, hbe5.setCell (p := ⟨g4, 2 + s, none⟩) hgg _, hnl _, Lib.hid (hupx.out hU.out), Lib.hid (by rw [(hnext _).out]; exact (hup hU.out).out.1), hal' _ (hup hU.out).out.2⟩
            case measure => rw [hq.out]; omega
          · by_cases hts : u1 < tz p
            · have hU := Lib.hid (show upC R p l = true by have := hTT.out; have := hQQ.out; exact upC_yes (by omega) (by omega) (by rw [← hu1'.out]; exact hts))
              have hp1 : 1 ≤ p := by omega
              obtain ⟨q, hqe⟩ : ∃ q, q = p - 1 := ⟨_, rfl⟩
              obtain ⟨u0, hue⟩ : ∃ u0, tz p = u0 := ⟨_, rfl⟩
              have hq1 := Lib.hid hqe
              have hu0 := Lib.hid hue
              have hm1 : Hid (IntKind.i64.wrap ((p : Int) - 1) = (q : Int)) := Lib.hid (by rw [IntWalk.i64_in _ (by omega)]; omega)
              have hm2 : (p : Int) - 1 = (q : Int) := by omega
              have hring0 := fun (wx : World) (hx : Tab wx) (y : Int) (hy : y = (q : Int)) => Lib.hid (ring_any' y q hy (by omega) wx hx)
              rw [show q + 1 = p by omega, hue] at hring0
              rw [hue] at hts
              clear hqe hue
              have hp0' : ¬ (p : Int) = 0 := by omega
              have hpT' : (p : Int) < T := by omega
              have hpQ' : (p : Int) + 1 ≤ Q := by omega
              have hts' : (u1 : Int) < u0 := by omega
              have hts2 : u1 < u0 := hts
              clear hp0 hpT hpQ hts
              obtain ⟨hw0, hw0', hw1, hw2⟩ := hws.out
              have hm3 := hm1.out
              go_wp2_with (fail)
              go_quiet (fail)
              clear hw0 hw0' hw1 hw2 hm3
              have hown2 := hown.drewN nq
              have hB2 := hB.drewN nq
              have hb2 := below_drewN hb3 nq
              obtain ⟨wq, hwq⟩ : ∃ wq, wq = wr.drewN nq := ⟨_, rfl⟩
              rw [← hwq] at hown2 hB2 hb2 ⊢
              have hT2 := hT.later hb2
              clear hwq hc0 hc1 hf1 hown hB hb3
              go_wp2_with (first
                | (go_at_call 68
                   first
                   | refine (hring1 _ hT2 _ (by omega)).out.mono ?_
                   | refine (hring0 _ hT2 _ (by omega)).out.mono ?_
                   rintro e w' ⟨rfl, rfl⟩)
                | (at_builtin
                   refine wpList_push rfl _ _ rfl rfl (hown2.none_ (World.grownBy_alloc wq _ none)) wq.heap.size 1 (u1) rfl (Blk.new _ _ _) (by omega) (by simp; have := hb2.size; omega) ?_
                   intro g5 cap5 w5 hown5 hg5 hat5 hlt5
                   have hB5 := (hB2.alloc _).grown hg5 (fun e => (hown2.blk_ne hB2 (by decide)) e.symm)
                   have hbe5 := (hb2.alloc hb2.size _).grown hg5 (by simp; have := hb2.size; omega) (fun j hj => hown2.ge hj)
                   have k1 := (coupA_blk hB5 hs2).2
                   have hf5 := hB5.frozen (2 + s)
                   rw [← hPP.out] at k1))
              have hn5 := hown5.blk_ne hB5 (by decide)
              have hBf := hB5.set_ (2 + s) (.int .i64 (p + 1 : Nat))
              rw [hset] at hBf
              go_roundg l
              case rel => exact ⟨l, upd a s (p + 1), zs ++ [(u1 : Int)], Lib.hid rfl, rfl, hown5.set_ (p := ⟨g4, 2 + s, none⟩) hn5 _, hBf, hbe5.setCell (p := ⟨g4, 2 + s, none⟩) hgg _, hnl _, Lib.hid (hupx.out hU.out), Lib.hid (by rw [(hnext _).out]; exact (hup hU.out).out.1), hal' _ (hup hU.out).out.2⟩
              case measure => rw [hq.out]; omega
            · have hU : upC R p l = false := upC_no3 (by omega) (by rw [← hu1'.out]; exact hts)
              have hp1 := (hdn hU).out.2
              obtain ⟨q, hqe⟩ : ∃ q, q = p - 1 := ⟨_, rfl⟩
              obtain ⟨u0, hue⟩ : ∃ u0, tz p = u0 := ⟨_, rfl⟩
              have hq1 := Lib.hid hqe
              have hu0 := Lib.hid hue
              have hm1 : Hid (IntKind.i64.wrap ((p : Int) - 1) = (q : Int)) := Lib.hid (by rw [IntWalk.i64_in _ (by omega)]; omega)
              have hm2 : (p : Int) - 1 = (q : Int) := by omega
              have hring0 := fun (wx : World) (hx : Tab wx) (y : Int) (hy : y = (q : Int)) => Lib.hid (ring_any' y q hy (by omega) wx hx)
              rw [show q + 1 = p by omega, hue] at hring0
              have hU := Lib.hid hU
              rw [hue] at hts
              clear hqe hue
              have hp0' : ¬ (p : Int) = 0 := by omega
              have hpT' : (p : Int) < T := by omega
              have hpQ' : (p : Int) + 1 ≤ Q := by omega
              have hts' : ¬ (u1 : Int) < u0 := by omega
              have hts2 : (u0 : Int) ≤ u1 := by omega
              have hts3 : u0 ≤ u1 := by omega
              have hts4 : ¬ u1 < u0 := hts
              clear hp0 hpT hpQ hts
              obtain ⟨hw0, hw0', hw1, hw2⟩ := hws.out
              have hm3 := hm1.out
              go_wp2_with (fail)
              go_quiet (fail)
              clear hw0 hw0' hw1 hw2 hm3
              have hown2 := hown.drewN nq
              have hB2 := hB.drewN nq
              have hb2 := below_drewN hb3 nq
              obtain ⟨wq, hwq⟩ : ∃ wq, wq = wr.drewN nq := ⟨_, rfl⟩
              rw [← hwq] at hown2 hB2 hb2 ⊢
              have hT2 := hT.later hb2
              clear hwq hc0 hc1 hf1 hown hB hb3
              go_wp2_with (first
                | (go_at_call 68
                   first
                   | refine (hring1 _ hT2 _ (by omega)).out.mono ?_
                   | refine (hring0 _ hT2 _ (by omega)).out.mono ?_
                   rintro e w' ⟨rfl, rfl⟩)
                | (at_builtin
                   refine wpList_push rfl _ _ rfl rfl (hown2.none_ (World.grownBy_alloc wq _ none)) wq.heap.size 1 (u0) rfl (Blk.new _ _ _) (by omega) (by simp; have := hb2.size; omega) ?_
                   intro g5 cap5 w5 hown5 hg5 hat5 hlt5
                   have hB5 := (hB2.alloc _).grown hg5 (fun e => (hown2.blk_ne hB2 (by decide)) e.symm)
                   have hbe5 := (hb2.alloc hb2.size _).grown hg5 (by simp; have := hb2.size; omega) (fun j hj => hown2.ge hj)
                   have k1 := (coupA_blk hB5 hs2).2
                   have hf5 := hB5.frozen (2 + s)
                   rw [← hPP.out] at k1))
              have hn5 := hown5.blk_ne hB5 (by decide)
              have hBf := hB5.set_ (2 + s) (.int .i64 (q : Nat))
              rw [hset] at hBf
              go_roundg l
              case rel => exact ⟨l, upd a s q, zs ++ [(u0 : Int)], Lib.hid rfl, rfl, hown5.set_ (p := ⟨g4, 2 + s, none⟩) hn5 _, hBf, hbe5.setCell (p := ⟨g4, 2 + s, none⟩) hgg _, hnl _, Lib.hid (by rw [hq1.out]; exact (hdnx u0).out hU.out hu0.out), Lib.hid (by rw [(hnext _).out, hq1.out]; exact (hdn hU.out).out.1), hal' _ (Nat.lt_of_le_of_lt (by rw [hq1.out]; exact Nat.sub_le _ _) hat.out)⟩
              case measure => rw [hq.out]; omega
        · have hU : upC R p l = false := upC_no2 (by rw [← hQQ.out]; exact hpQ)
          have hp1 := (hdn hU).out.2
          obtain ⟨q, hqe⟩ : ∃ q, q = p - 1 := ⟨_, rfl⟩
          obtain ⟨u0, hue⟩ : ∃ u0, tz p = u0 := ⟨_, rfl⟩
          have hq1 := Lib.hid hqe
          have hu0 := Lib.hid hue
          have hm1 : Hid (IntKind.i64.wrap ((p : Int) - 1) = (q : Int)) := Lib.hid (by rw [IntWalk.i64_in _ (by omega)]; omega)
          have hm2 : (p : Int) - 1 = (q : Int) := by omega
          have hring0 := fun (wx : World) (hx : Tab wx) (y : Int) (hy : y = (q : Int)) => Lib.hid (ring_any' y q hy (by omega) wx hx)
          rw [show q + 1 = p by omega, hue] at hring0
          have hU := Lib.hid hU
          clear hqe hue
          have hpT' : (p : Int) < T := by omega
          have hpQ2 : (Q : Int) < (p : Int) + 1 := by omega
          clear hpQ
          obtain ⟨hw0, hw0', hw1, hw2⟩ := hws.out
          have hm3 := hm1.out
          go_wp2_with (fail)
          go_quiet (fail)
          clear hw0 hw0' hw1 hw2 hm3
          have hown2 := hown.drewN nq
          have hB2 := hB.drewN nq
          have hb2 := below_drewN hb3 nq
          obtain ⟨wq, hwq⟩ : ∃ wq, wq = wr.drewN nq := ⟨_, rfl⟩
          rw [← hwq] at hown2 hB2 hb2 ⊢
          have hT2 := hT.later hb2
          clear hwq hc0 hc1 hf1 hown hB hb3
          go_wp2_with (first
            | (go_at_call 68
               first
               | refine (hring1 _ hT2 _ (by omega)).out.mono ?_
               | refine (hring0 _ hT2 _ (by omega)).out.mono ?_
               rintro e w' ⟨rfl, rfl⟩)
            | (at_builtin
               refine wpList_push rfl _ _ rfl rfl (hown2.none_ (World.grownBy_alloc wq _ none)) wq.heap.size 1 (u0) rfl (Blk.new _ _ _) (by omega) (by simp; have := hb2.size; omega) ?_
               intro g5 cap5 w5 hown5 hg5 hat5 hlt5
               have hB5 := (hB2.alloc _).grown hg5 (fun e => (hown2.blk_ne hB2 (by decide)) e.symm)
               have hbe5 := (hb2.alloc hb2.size _).grown hg5 (by simp; have := hb2.size; omega) (fun j hj => hown2.ge hj)
               have k1 := (coupA_blk hB5 hs2).2
               have hf5 := hB5.frozen (2 + s)
               rw [← hPP.out] at k1))
          have hn5 := hown5.blk_ne hB5 (by decide)
          have hBf := hB5.set_ (2 + s) (.int .i64 (q : Nat))
          rw [hset] at hBf
          go_roundg l
          case rel => exact ⟨l, upd a s q, zs ++ [(u0 : Int)], Lib.hid rfl, rfl, hown5.set_ (p := ⟨g4, 2 + s, none⟩) hn5 _, hBf, hbe5.setCell (p := ⟨g4, 2 + s, none⟩) hgg _, hnl _, Lib.hid (by rw [hq1.out]; exact (hdnx u0).out hU.out hu0.out), Lib.hid (by rw [(hnext _).out, hq1.out]; exact (hdn hU.out).out.1), hal' _ (Nat.lt_of_le_of_lt (by rw [hq1.out]; exact Nat.sub_le _ _) hat.out)⟩
          case measure => rw [hq.out]; omega
      · have hU : upC R p l = false := upC_no1 (by rw [← hTT.out]; exact hpT)
        have hp1 := (hdn hU).out.2
        obtain ⟨q, hqe⟩ : ∃ q, q = p - 1 := ⟨_, rfl⟩
        obtain ⟨u0, hue⟩ : ∃ u0, tz p = u0 := ⟨_, rfl⟩
        have hq1 := Lib.hid hqe
        have hu0 := Lib.hid hue
        have hm1 : Hid (IntKind.i64.wrap ((p : Int) - 1) = (q : Int)) := Lib.hid (by rw [IntWalk.i64_in _ (by omega)]; omega)
        have hm2 : (p : Int) - 1 = (q : Int) := by omega
        have hring0 := fun (wx : World) (hx : Tab wx) (y : Int) (hy : y = (q : Int)) => Lib.hid (ring_any' y q hy (by omega) wx hx)
        rw [show q + 1 = p by omega, hue] at hring0
        have hU := Lib.hid hU
        clear hqe hue
        have hpT' : ¬ (p : Int) < T := by omega
        have hpT2 : (T : Int) ≤ p := by omega
        have hpT3 : T ≤ p := by omega
        obtain ⟨hw0, hw0', hw1, hw2⟩ := hws.out
        have hm3 := hm1.out
        go_wp2_with (fail)
        go_quiet (fail)
        clear hw0 hw0' hw1 hw2 hm3
        have hown2 := hown.drewN nq
        have hB2 := hB.drewN nq
        have hb2 := below_drewN hb3 nq
        obtain ⟨wq, hwq⟩ : ∃ wq, wq = wr.drewN nq := ⟨_, rfl⟩
        rw [← hwq] at hown2 hB2 hb2 ⊢
        have hT2 := hT.later hb2
        clear hwq hc0 hc1 hf1 hown hB hb3
        go_wp2_with (first
          | (go_at_call 68
             first
             | refine (hring1 _ hT2 _ (by omega)).out.mono ?_
             | refine (hring0 _ hT2 _ (by omega)).out.mono ?_
             rintro e w' ⟨rfl, rfl⟩)
          | (at_builtin
             refine wpList_push rfl _ _ rfl rfl (hown2.none_ (World.grownBy_alloc wq _ none)) wq.heap.size 1 (u0) rfl (Blk.new _ _ _) (by omega) (by simp; have := hb2.size; omega) ?_
             intro g5 cap5 w5 hown5 hg5 hat5 hlt5
             have hB5 := (hB2.alloc _).grown hg5 (fun e => (hown2.blk_ne hB2 (by decide)) e.symm)
             have hbe5 := (hb2.alloc hb2.size _).grown hg5 (by simp; have := hb2.size; omega) (fun j hj => hown2.ge hj)
             have k1 := (coupA_blk hB5 hs2).2
             have hf5 := hB5.frozen (2 + s)
             rw [← hPP.out] at k1))
        have hn5 := hown5.blk_ne hB5 (by decide)
        have hBf := hB5.set_ (2 + s) (.int .i64 (q : Nat))
        rw [hset] at hBf
        go_roundg l
        case rel => exact ⟨l, upd a s q, zs ++ [(u0 : Int)], Lib.hid rfl, rfl, hown5.set_ (p := ⟨g4, 2 + s, none⟩) hn5 _, hBf, hbe5.setCell (p := ⟨g4, 2 + s, none⟩) hgg _, hnl _, Lib.hid (by rw [hq1.out]; exact (hdnx u0).out hU.out hu0.out), Lib.hid (by rw [(hnext _).out, hq1.out]; exact (hdn hU.out).out.1), hal' _ (Nat.lt_of_le_of_lt (by rw [hq1.out]; exact Nat.sub_le _ _) hat.out)⟩
        case measure => rw [hq.out]; omega
set_option maxRecDepth 100000 in
set_option maxHeartbeats 400000 in
theorem Turns_any (A B : Option Addr) (n m c d : Nat) (xs ys : List Int) (w : World) (ha : RInts w w.heap.size A n xs) (hb : RInts w w.heap.size B m ys) (hn : n ≤ maxLen) (hm : m ≤ maxLen) (hT : Tab w) :
    Calls Tryd.prog 37 #[.agg (pairC A n c B m d)] w (RetL (turnsL xs ys) (pairE xs ys) w) := by
  by_cases hx : pairE xs ys = 0
  · rw [turnsL, if_pos hx, hx]
    exact Turns_ok A B n m c d xs ys w ha hb hn hm hT hx
  · rw [turnsL, if_neg hx]
    have hb0 : (pairE xs ys != 0) = true := by simpa using hx
    have hX := Lib.hid hx
    clear hx
    go_enter Tryd.func37, Tryd.ntmps37
    go_wp2_with (first
      | (with_reducible show wpList _ _ _ (⟨some 1, .box 40 _, _, _, _, _⟩ :: _) _ _
         refine wpList_box_blk rfl 40 _ rfl (pairC A n c B m d) rfl ?_
         intro w0 g1 hP1 hg0 hs0
         have hBe0 : Below w.heap.size w w0 := below_none (Below.refl _ _) hg0 (Nat.le_refl _)
         clear hg0)
      | (with_reducible show wpList _ _ _ (⟨_, .load 40 _, _, _, _, _⟩ :: _) _ _
         refine wpList_load_blk rfl 40 _ rfl g1 rfl 40 _ _ hP1 Tryd.underlying40 rfl (info_pair _ _ _ _ _ _) ?_)
      | (go_at_call 64
         refine (opened_any A B n m c d xs ys w0 ((ha.below hBe0).more hBe0.size) ((hb.below hBe0).more hBe0.size) hn hm).mono ?_
         rintro e w1 ⟨r, s, a, b, rfl, hc, hb1⟩
         have hBe1 := hBe0.trans (hb1.mono hBe0.size)
         clear hb1 hc hP1)
      | (with_reducible show wpList _ _ _ (⟨_, .alloc 88, _, _, _, _⟩ :: _) _ _
         refine wpList_alloc_blk rfl 88 rfl _ zero_couple ?_
         intro w2 g4 hB2 hg2 hs2
         have hBe2 := below_none hBe1 hg2 hBe1.size)
      | (with_reducible show wpList _ _ _ (⟨_, .store 88 _ _, _, _, _, _⟩ :: _) _ _
         refine wpList_store_blk rfl 88 _ _ rfl g4 (coupC r s a b) rfl rfl 88 (coupC 0 0 0 0) hB2 (info_coup _ _ _ _) rfl (coupC_one _ _ _ _) ?_
         intro w3 hB3 hg3
         have hgg : w.heap.size ≤ g4 := by have := hBe1.size; omega
         have hBe3 := below_some hBe2 hg3 hBe2.size hgg))
    go_ret2
    exact RetL_nil hBe3
end Go.Proofs.YtjhcemhnnkcjaaaDoor
