/- Grow. (Printed by gengrow.py.) -/
import Derived.Test.YtdaaiockkbolbaaGrowF
namespace Go.Proofs.Ytdaaiockkbolbaa
open Go.RowKit
set_option maxRecDepth 100000 in
set_option maxHeartbeats 4000000 in
theorem Grow_any (A : Option Addr) (n c : Nat) (ws : List ByteArray) (l : Int) (w : World) (B : Nat) (hB : B ≤ w.heap.size) (hr : RStrs w B A n ws) :
    Calls Try.prog 36 #[.agg #[.slice A n c], .int .i64 l] w fun e w' => e = .returned (.tuple #[.string ⟨(growV ws l).toArray⟩, .int .i64 (growE ws l)]) ∧ Below w.heap.size w w' := by
  have hlen := hr.len
  by_cases h0 : ruleE ws = 0
  · obtain ⟨z1, z2, z3, z4, z5⟩ := ruleE_zero h0
    have h0H := Lib.hid h0
    have hn1 : 1 ≤ n := by omega
    have hn4 : n ≤ 4 := by omega
    have hni : (0 : Int) < n := by omega
    by_cases hl : 0 ≤ l ∧ l ≤ 600
    · have hw1 : withinB l 0 600 = true := by simp [withinB, hl]
      obtain ⟨ad, s0, rfl, hab, hcell0, hs0⟩ := hr.first hn1
      obtain ⟨K, hK⟩ : ∃ K, s0.size = K := ⟨_, rfl⟩
      rw [hs0.out, hK] at z3 z4
      have hKH := Lib.hid (show (ws.headD ⟨#[]⟩).size = K by rw [hs0.out, hK])
      have hs13 : s0.size ≤ 13 := by omega
      by_cases hK1 : K = 1
      · have hE := Lib.hid (show growE ws l = 12 by rw [growE, if_neg (by simpa using h0), if_neg (by simpa using hl), if_pos (Or.inl (by rw [hKH.out, hK1]))])
        have hV := Lib.hid (show growV ws l = [] by rw [growV, if_neg (by rw [hE.out]; decide)])
        have hKi : ((K : Int) == 1) = true := by simp; omega
        clear h0 z5 hK hK1
        go_enter Try.func36, Try.ntmps36
        go_wp2_with (first
          | (with_reducible show wpList _ _ _ (⟨_, .box 38 _, _, _, _, _⟩ :: _) _ _
             refine wpList_box_blk rfl 38 _ rfl #[.slice (some ad) n c] rfl ?_
             intro w1 g hG hgr hge
             have hk := Rk.box hB hr hG hgr
             have cg := hk.cell
             have hg := hk.bk.lt
             have hRB := hk.b
             have hc0 := (hk.be.cell (p := ad) (by omega)).trans hcell0
             clear hG hgr hge)
          | (with_reducible show wpList _ _ _ (⟨_, .load 38 _, _, _, _, _⟩ :: _) _ _
             refine wpList_load_blk rfl 38 _ rfl g rfl 38 #[.slice (some ad) n c] _ hk.bk Try.underlying38 rfl (info_oneP _) ?_)
          | (go_at_call 34; refine (CheckRule_any _ n c ws _ B hRB hk.rs).mono ?_; rintro e w' ⟨rfl, hb'⟩; rw [h0H.out]
             replace hk := hk.call hb'
             have cg := hk.cell
             have hg := hk.bk.lt
             have hRB := hk.b
             have hc0 := (hk.be.cell (p := ad) (by omega)).trans hcell0
             clear hb')
          | (go_at_call 61; refine (within_b _ _ _ _).mono ?_; rintro e w' ⟨rfl, rfl⟩; rw [hw1])
          | (go_at_call 74; refine (size_any _ n c ws _ B hRB hk.rs (by omega)).mono ?_; rintro e w' ⟨rfl, hb'⟩; rw [hKH.out]
             replace hk := hk.call hb'
             have cg := hk.cell
             have hg := hk.bk.lt
             have hRB := hk.b
             have hc0 := (hk.be.cell (p := ad) (by omega)).trans hcell0
             clear hb'))
        go_ret2
        exact ⟨by rw [hE.out, hV.out]; rfl, hk.be⟩
      · have hKi : ((K : Int) == 1) = false := by simp; omega
        have h0s : 0 < s0.size := by omega
        obtain ⟨b, hb⟩ : ∃ b, s0[0]'h0s = b := ⟨_, rfl⟩
        have hb0 := bts_at s0 0 h0s
        rw [hb] at hb0
        have hbs : Value.int .u8 (((s0[0]'h0s).toNat : Nat) : Int) = Value.int .u8 ((b.toNat : Nat) : Int) := by rw [hb]
        have h0si : (0 : Int) < (K : Int) := by omega
        by_cases hb97 : b.toNat = 97
        · have hbb : ((b.toNat : Int) != 97) = false := by simp [hb97]
          have hfst : (bts (ws.headD ⟨#[]⟩))[0]? = some 97 := by rw [hs0.out, hb0, show b = 97 from UInt8.toNat_inj.1 hb97]
          have hno : ¬ ((ws.headD ⟨#[]⟩).size = 1 ∨ (bts (ws.headD ⟨#[]⟩))[0]? ≠ some 97) := by
            rintro (h | h)
            · rw [hKH.out] at h; exact hK1 h
            · exact h hfst
          have hcf := Lib.hid (fun g w' B' h1 h2 h3 => containsFunc_any g (some ad) n c ws w' B' h1 h2 h3 (fun t ht => (z5 t ht).2) hn1 hn4)
          cases hq : ws.all (fun t => lettersS (bts t) (n : Int)) with
          | false =>
            have hE := Lib.hid (show growE ws l = 2 by rw [growE, if_neg (by simpa using h0), if_neg (by simpa using hl), if_neg hno, hlen, hq]; rfl)
            have hV := Lib.hid (show growV ws l = [] by rw [growV, if_neg (by rw [hE.out]; decide)])
            have hqH := Lib.hid hq
            clear h0 z5 hK hK1 hb hb0 hb97 hno hfst hq
            go_enter Try.func36, Try.ntmps36
            go_wp2_with (first
              | (with_reducible show wpList _ _ _ (⟨_, .box 38 _, _, _, _, _⟩ :: _) _ _
                 refine wpList_box_blk rfl 38 _ rfl #[.slice (some ad) n c] rfl ?_
                 intro w1 g hG hgr hge
                 have hk := Rk.box hB hr hG hgr
                 have cg := hk.cell
                 have hg := hk.bk.lt
                 have hRB := hk.b
                 have hc0 := (hk.be.cell (p := ad) (by omega)).trans hcell0
                 clear hG hgr hge)
              | (with_reducible show wpList _ _ _ (⟨_, .load 38 _, _, _, _, _⟩ :: _) _ _
                 refine wpList_load_blk rfl 38 _ rfl g rfl 38 #[.slice (some ad) n c] _ hk.bk Try.underlying38 rfl (info_oneP _) ?_)
              | (go_at_call 34; refine (CheckRule_any _ n c ws _ B hRB hk.rs).mono ?_; rintro e w' ⟨rfl, hb'⟩; rw [h0H.out]
                 replace hk := hk.call hb'
                 have cg := hk.cell
                 have hg := hk.bk.lt
                 have hRB := hk.b
                 have hc0 := (hk.be.cell (p := ad) (by omega)).trans hcell0
                 clear hb')
              | (go_at_call 61; refine (within_b _ _ _ _).mono ?_; rintro e w' ⟨rfl, rfl⟩; rw [hw1])
              | (go_at_call 74; refine (size_any _ n c ws _ B hRB hk.rs (by omega)).mono ?_; rintro e w' ⟨rfl, hb'⟩; rw [hKH.out]
                 replace hk := hk.call hb'
                 have cg := hk.cell
                 have hg := hk.bk.lt
                 have hRB := hk.b
                 have hc0 := (hk.be.cell (p := ad) (by omega)).trans hcell0
                 clear hb')
              | (go_at_call 75; refine (hcf.out g _ B hRB hk.rs hk.bk).mono ?_; rintro e w' ⟨rfl, hb'⟩; rw [hqH.out]
                 replace hk := hk.call hb'
                 have cg := hk.cell
                 have hg := hk.bk.lt
                 have hRB := hk.b
                 have hc0 := (hk.be.cell (p := ad) (by omega)).trans hcell0
                 clear hb'))
            go_ret2
            exact ⟨by rw [hE.out, hV.out]; rfl, hk.be⟩
          | true =>
            have hE := Lib.hid (show growE ws l = 0 by rw [growE, if_neg (by simpa using h0), if_neg (by simpa using hl), if_neg hno, hlen, hq]; rfl)
            have hV := Lib.hid (show growV ws l = growW ws l.toNat by rw [growV, if_pos hE.out])
            have hGr := Lib.hid (grows_of h0 hno (by rw [hlen]; exact hq))
            rw [hlen, hKH.out] at hGr
            have hqH := Lib.hid hq
            have hw97 := Lib.hid (show wordOf ws 97 = bts s0 from by
              cases ws with
              | nil => simp at z1
              | cons a r => have := hs0.out; simp at this; subst this; rfl)
            clear h0 z5 hK hK1 hb hb0 hb97 hno hfst hq
            obtain ⟨L, rfl⟩ : ∃ L : Nat, l = L := ⟨l.toNat, by omega⟩
            have hL6 : L ≤ 600 := by omega
            go_enter Try.func36, Try.ntmps36
            go_wp2_with (first
              | (with_reducible show wpList _ _ _ (⟨_, .box 38 _, _, _, _, _⟩ :: _) _ _
                 refine wpList_box_blk rfl 38 _ rfl #[.slice (some ad) n c] rfl ?_
                 intro w1 g hG hgr hge
                 have hk := Rk.box hB hr hG hgr
                 have cg := hk.cell
                 have hg := hk.bk.lt
                 have hRB := hk.b
                 have hc0 := (hk.be.cell (p := ad) (by omega)).trans hcell0
                 clear hG hgr hge)
              | (with_reducible show wpList _ _ _ (⟨_, .load 38 _, _, _, _, _⟩ :: _) _ _
                 refine wpList_load_blk rfl 38 _ rfl g rfl 38 #[.slice (some ad) n c] _ hk.bk Try.underlying38 rfl (info_oneP _) ?_)
              | (go_at_call 34; refine (CheckRule_any _ n c ws _ B hRB hk.rs).mono ?_; rintro e w' ⟨rfl, hb'⟩; rw [h0H.out]
                 replace hk := hk.call hb'
                 have cg := hk.cell
                 have hg := hk.bk.lt
                 have hRB := hk.b
                 have hc0 := (hk.be.cell (p := ad) (by omega)).trans hcell0
                 clear hb')
              | (go_at_call 61; refine (within_b _ _ _ _).mono ?_; rintro e w' ⟨rfl, rfl⟩; rw [hw1])
              | (go_at_call 74; refine (size_any _ n c ws _ B hRB hk.rs (by omega)).mono ?_; rintro e w' ⟨rfl, hb'⟩; rw [hKH.out]
                 replace hk := hk.call hb'
                 have cg := hk.cell
                 have hg := hk.bk.lt
                 have hRB := hk.b
                 have hc0 := (hk.be.cell (p := ad) (by omega)).trans hcell0
                 clear hb')
              | (go_at_call 75; refine (hcf.out g _ B hRB hk.rs hk.bk).mono ?_; rintro e w8 ⟨rfl, hb'⟩; rw [hqH.out]
                 replace hk := hk.call hb'
                 have cg := hk.cell
                 have hg := hk.bk.lt
                 have hRB := hk.b
                 have hc0 := (hk.be.cell (p := ad) (by omega)).trans hcell0
                 clear hb'
                 have hg8 := hg
                 have hw08 := hk.be.size
                 obtain ⟨v8, w9, hcv, hrow, hb9⟩ := bytes_conv w8 s0 (by omega)
                 replace hk := hk.call hb9
                 have cg := hk.cell))
            go_loopw [7, 8] (fun v x wr => ∃ (u : Word) (t : Nat), OwnG wr w8.heap.size v u ∧ x = .int .i64 t ∧ 1 ≤ t ∧ t ≤ u.length ∧ u.length ≤ 613 ∧ Hid (u = putS ws (u.take t) ∧ u[0]? = some 97 ∧ lettersS u (n : Int) = true) ∧ Rk 38 w wr g (some ad) n c ws B) (fun _ x _ => 700 - (intOf x).toNat)
            case atStart =>
              have hG0 := hGr.out
              have h97 := hw97.out
              have hsl : (bts s0).length = K := by rw [bts_len, ← hKH.out, hs0.out]
              refine ⟨bts s0, 1, OwnG.of_row hrow (Nat.le_refl _), rfl, Nat.le_refl _, by rw [hsl]; exact z3, by rw [hsl]; omega, Lib.hid ⟨?_, by rw [← h97]; exact hG0.first, ?_⟩, hk⟩
              · have h1 : (bts s0).take 1 = [97] := by
                  have := hG0.first
                  rw [h97] at this
                  cases hbs0 : bts s0 with
                  | nil => rw [hbs0] at this; cases this
                  | cons a r => rw [hbs0] at this; simp at this; subst this; rfl
                rw [h1, ← h97]; simp [putS]
              · rw [← h97]
                unfold wordOf
                rw [List.getD]
                cases hg : ws[(97 : UInt8).toNat - 97]? with
                | none => rfl
                | some t => exact hG0.letters t (List.mem_of_getElem? hg)
            case round =>
              obtain ⟨u, t, hown, rfl, ht1, htu, hu6, hu, hk⟩ := hrel
              have hG0 := hGr.out
              have hown1 := hown
              obtain ⟨g', off, cap, rfl, hbg, hglt, hucap, hcapm, _, _⟩ := hown1
              have cg := hk.cell
              by_cases hlt : u.length < L
              · have hlti : (u.length : Int) < L := by omega
                have hul := putS_long hG0.len hG0.size (letters_part hu.out.2.2 t)
                rw [← hu.out.1, List.length_take, Nat.min_eq_left htu] at hul
                have htK : t * 2 ≤ t * K := Nat.mul_le_mul_left _ hG0.K2
                have htlt : t < u.length := by omega
                have htlti : (t : Int) < u.length := by omega
                obtain ⟨y, hy⟩ : ∃ y, u[t]? = some y := ⟨_, List.getElem?_eq_getElem htlt⟩
                have hyl := (List.all_eq_true.1 hu.out.2.2) y (List.mem_of_getElem? hy)
                simp only [Bool.and_eq_true, decide_eq_true_eq] at hyl
                obtain ⟨k, hkk⟩ : ∃ k : Nat, (y.toNat : Int) - 97 = k := ⟨y.toNat - 97, by omega⟩
                have hkn : k < n := by omega
                have hkni : (k : Int) < n := by omega
                obtain ⟨ad', tt, had, hadb, hcell, hwt⟩ := hk.rs.at_ hkn
                obtain rfl : ad = ad' := by simpa using had
                have htts := hG0.size tt (List.mem_of_getElem? hwt.out)
                have hwo : wordOf ws y = bts tt := by unfold wordOf; rw [show y.toNat - 97 = k by omega, List.getD, hwt.out]; rfl
                have hyc := hown.at_ hy
                have hN := Lib.hid (show (u ++ bts tt) = putS ws ((u ++ bts tt).take (t + 1)) ∧ (u ++ bts tt)[0]? = some 97 ∧ lettersS (u ++ bts tt) (n : Int) = true from by
                  refine ⟨?_, ?_, ?_⟩
                  · rw [List.take_append_of_le_length (by omega), List.take_add_one, hy, Option.toList_some, putS_snoc, ← hu.out.1, hwo]
                  · rw [List.getElem?_append_left (List.getElem?_eq_some_iff.1 hu.out.2.1).1]; exact hu.out.2.1
                  · rw [letters_app, hu.out.2.2, Bool.true_and]; exact hG0.letters tt (List.mem_of_getElem? hwt.out))
                have hlen2 : (u ++ bts tt).length = u.length + tt.size := by rw [List.length_append, bts_len]
                have htt13 : tt.size ≤ 13 := by have := hG0.K13; omega
                have hpl : u.length + tt.size ≤ 1000000 := by omega
                have hgb : g < w8.heap.size := hg8
                have hadB : (ad.add k).block < w8.heap.size := by rw [block_of_add]; omega
                have hwb : w8.heap.size ≤ wr.heap.size := by omega
                have hyH := Lib.hid hy
                clear hul htK hy hyl hwo had htts hG0
                have hw8 := u8_small (k := k) (by omega)
                go_wp2_with (fail)
                go_region_held3 (fun w' => w'.cell? ⟨g, 0, none⟩ = some (.slice (some ad) n c) ∧ w'.cell? ⟨g', off + t, none⟩ = some (.int .u8 (y.toNat : Int)) ∧ w'.cell? (ad.add k) = some (.string tt))
                  (first | assumption | exact ⟨cg, hyc, hcell⟩)
                  (first | (refine step_pushStr rfl _ _ rfl rfl hown.drew tt rfl hpl hwb ?_; intro v2 w9 hown9 hold9 hbe9
                            have hS9 : w9.cell? ⟨g, 0, none⟩ = some (.slice (some ad) n c) ∧ w9.cell? ⟨g', off + t, none⟩ = some (.int .u8 (y.toNat : Int)) ∧ w9.cell? (ad.add k) = some (.string tt) := ⟨(hbe9.cell (p := ⟨g, 0, none⟩) hgb).trans cg, hold9.at_ hyH.out, (hbe9.cell (p := ad.add k) hadB).trans hcell⟩))
                have hk9 : Rk 38 w w9 g (some ad) n c ws B := ⟨hk.be.trans (((below_drewN (Below.refl _ wr) 1).trans hbe9).mono hw08), hk.rs.keep (fun q hq => hbe9.cell (by omega)), (hbe9.block g hgb).trans hk.bk, hk.bl⟩
                clear hw8
                go_wp2_with (fail)
                go_roundw
                case rel => exact ⟨u ++ bts tt, t + 1, hown9, by go_num, by omega, by rw [hlen2]; omega, by rw [hlen2]; omega, hN, hk9⟩
                case measure => simp only [intOf]; omega
              · have hlti : ¬ (u.length : Int) < L := by omega
                have hLc : (L : Int) ≤ cap := by omega
                have hIG : IsGrow ws u := ⟨hu.out.2.1, putS ws (u.drop t), by conv => lhs; rw [← List.take_append_drop t u]
                                                                              rw [putS_append, ← hu.out.1]⟩
                have hval := Lib.hid (show u.take L = growW ws (L : Int).toNat from hG0.val hIG hu.out.2.2 (L := L) (by omega))
                have hstr : (convert 55 9 (.slice (some ⟨g', off, none⟩) L cap)).run Try.prog wr = .ok (.string ⟨(u.take L).toArray⟩) wr := by
                  have h1 := run_convert_bytes_back (P := Try.prog) wr 55 9 5 ⟨g', off, none⟩ cap (u.take L) Try.underlying55 Try.underlying5 Try.underlying9 (fun j hj => by
                    rw [Addr.add_lit]
                    refine hown.at_ ?_
                    rw [List.length_take] at hj
                    rw [List.getElem_take]
                    exact List.getElem?_eq_getElem (by omega))
                  rwa [List.length_take, Nat.min_eq_left (by omega)] at h1
                clear hIG hG0 hu
                go_wp2_with (fail)
                go_ret2
                exact ⟨by rw [hE.out, hV.out, ← hval.out]; rfl, hk.be⟩
        · have hbb : ((b.toNat : Int) != 97) = true := by simp; omega
          have hE := Lib.hid (show growE ws l = 12 by
            rw [growE, if_neg (by simpa using h0), if_neg (by simpa using hl), if_pos (Or.inr ?_)]
            rw [hs0.out, hb0]
            intro h
            simp only [Option.some.injEq] at h
            subst h
            exact hb97 rfl)
          have hV := Lib.hid (show growV ws l = [] by rw [growV, if_neg (by rw [hE.out]; decide)])
          clear h0 z5 hK hK1 hb hb0
          go_enter Try.func36, Try.ntmps36
          go_wp2_with (first
            | (with_reducible show wpList _ _ _ (⟨_, .box 38 _, _, _, _, _⟩ :: _) _ _
               refine wpList_box_blk rfl 38 _ rfl #[.slice (some ad) n c] rfl ?_
               intro w1 g hG hgr hge
               have hk := Rk.box hB hr hG hgr
               have cg := hk.cell
               have hg := hk.bk.lt
               have hRB := hk.b
               have hc0 := (hk.be.cell (p := ad) (by omega)).trans hcell0
               clear hG hgr hge)
            | (with_reducible show wpList _ _ _ (⟨_, .load 38 _, _, _, _, _⟩ :: _) _ _
               refine wpList_load_blk rfl 38 _ rfl g rfl 38 #[.slice (some ad) n c] _ hk.bk Try.underlying38 rfl (info_oneP _) ?_)
            | (go_at_call 34; refine (CheckRule_any _ n c ws _ B hRB hk.rs).mono ?_; rintro e w' ⟨rfl, hb'⟩; rw [h0H.out]
               replace hk := hk.call hb'
               have cg := hk.cell
               have hg := hk.bk.lt
               have hRB := hk.b
               have hc0 := (hk.be.cell (p := ad) (by omega)).trans hcell0
               clear hb')
            | (go_at_call 61; refine (within_b _ _ _ _).mono ?_; rintro e w' ⟨rfl, rfl⟩; rw [hw1])
            | (go_at_call 74; refine (size_any _ n c ws _ B hRB hk.rs (by omega)).mono ?_; rintro e w' ⟨rfl, hb'⟩; rw [hKH.out]
               replace hk := hk.call hb'
               have cg := hk.cell
               have hg := hk.bk.lt
               have hRB := hk.b
               have hc0 := (hk.be.cell (p := ad) (by omega)).trans hcell0
               clear hb'))
          go_ret2
          exact ⟨by rw [hE.out, hV.out]; rfl, hk.be⟩
    · have hw1 : withinB l 0 600 = false := by rw [Bool.eq_false_iff]; intro h; simp [withinB] at h; omega
      have hE := Lib.hid (show growE ws l = 1 by rw [growE, if_neg (by simpa using h0), if_pos hl])
      have hV := Lib.hid (show growV ws l = [] by rw [growV, if_neg (by rw [hE.out]; decide)])
      clear h0 z5
      go_enter Try.func36, Try.ntmps36
      go_wp2_with (first
        | (with_reducible show wpList _ _ _ (⟨_, .box 38 _, _, _, _, _⟩ :: _) _ _
           refine wpList_box_blk rfl 38 _ rfl #[.slice A n c] rfl ?_
           intro w1 g hG hgr hge
           have hk := Rk.box hB hr hG hgr
           have cg := hk.cell
           have hg := hk.bk.lt
           have hRB := hk.b
           clear hG hgr hge)
        | (with_reducible show wpList _ _ _ (⟨_, .load 38 _, _, _, _, _⟩ :: _) _ _
           refine wpList_load_blk rfl 38 _ rfl g rfl 38 #[.slice A n c] _ hk.bk Try.underlying38 rfl (info_oneP _) ?_)
        | (go_at_call 34; refine (CheckRule_any _ n c ws _ B hRB hk.rs).mono ?_; rintro e w' ⟨rfl, hb'⟩; rw [h0H.out]
           replace hk := hk.call hb'
           have cg := hk.cell
           have hg := hk.bk.lt
           have hRB := hk.b
           clear hb')
        | (go_at_call 61; refine (within_b _ _ _ _).mono ?_; rintro e w' ⟨rfl, rfl⟩; rw [hw1]))
      go_ret2
      exact ⟨by rw [hE.out, hV.out]; rfl, hk.be⟩
  · have hE := Lib.hid (show growE ws l = ruleE ws by rw [growE, if_pos h0])
    have hV := Lib.hid (show growV ws l = [] by rw [growV, if_neg (by rw [hE.out]; exact h0)])
    have h0b : (ruleE ws != 0) = true := by simpa using h0
    clear h0
    go_enter Try.func36, Try.ntmps36
    go_wp2_with (first
      | (with_reducible show wpList _ _ _ (⟨_, .box 38 _, _, _, _, _⟩ :: _) _ _
         refine wpList_box_blk rfl 38 _ rfl #[.slice A n c] rfl ?_
         intro w1 g hG hgr hge
         have hk := Rk.box hB hr hG hgr
         have cg := hk.cell
         have hg := hk.bk.lt
         have hRB := hk.b
         clear hG hgr hge)
      | (with_reducible show wpList _ _ _ (⟨_, .load 38 _, _, _, _, _⟩ :: _) _ _
         refine wpList_load_blk rfl 38 _ rfl g rfl 38 #[.slice A n c] _ hk.bk Try.underlying38 rfl (info_oneP _) ?_)
      | (go_at_call 34; refine (CheckRule_any _ n c ws _ B hRB hk.rs).mono ?_; rintro e w' ⟨rfl, hb'⟩
         replace hk := hk.call hb'
         have cg := hk.cell
         have hg := hk.bk.lt
         have hRB := hk.b
         clear hb'))
    go_ret2
    exact ⟨by rw [hE.out, hV.out]; rfl, hk.be⟩
end Go.Proofs.Ytdaaiockkbolbaa
