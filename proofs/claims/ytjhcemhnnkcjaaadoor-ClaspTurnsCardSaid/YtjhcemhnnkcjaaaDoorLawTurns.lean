/- The law ClaspTurns, walked: it returns true. -/
import Derived.Test.YtjhcemhnnkcjaaaDoorTuN
import Derived.Test.YtjhcemhnnkcjaaaDoorLawPairs
import Derived.Deep.CutRange
import Derived.StillTailTactics
namespace Go.Proofs.YtjhcemhnnkcjaaaDoor
open Go.RowKit Go.Maps
namespace Tu
theorem zero_pairP (w : World) : (zeroValue 40).run Tryd.prog w = .ok (.agg (pairC none 0 0 none 0 0)) w := Tryd.zeroValue40 w
set_option maxRecDepth 100000 in
set_option maxHeartbeats 16000000 in
theorem turns_law (x y one two : Nat) (hx : x < 256) (hy : y < 256) (h1 : one < 4294967296) (h2 : two < 4294967296) (w : World) (hT : Tab w) :
    Calls Tryd.prog 11 #[.agg #[.int .u8 x, .int .u8 y], .int .u32 one, .int .u32 two] w fun e w' => e = .returned (.bool true) ∧ Below w.heap.size w w' := by
  have hr : (x : Int).tmod 4 = ((x % 4 : Nat) : Int) := by rw [Int.tmod_eq_emod_of_nonneg (by omega)]; omega
  have hr2 : (y : Int).tmod 4 = ((y % 4 : Nat) : Int) := by rw [Int.tmod_eq_emod_of_nonneg (by omega)]; omega
  obtain ⟨d, hd⟩ : ∃ d, d = x % 4 := ⟨_, rfl⟩
  obtain ⟨d2, hd2⟩ : ∃ d, d = y % 4 := ⟨_, rfl⟩
  rw [← hd] at hr
  rw [← hd2] at hr2
  have hd4 : d < 4 := by omega
  have hd24 : d2 < 4 := by omega
  clear hd hd2
  obtain ⟨n, hn⟩ : ∃ n, n = 1 + d := ⟨_, rfl⟩
  obtain ⟨m, hm⟩ : ∃ m, m = 1 + d2 := ⟨_, rfl⟩
  have hn1 : (1 : Int) + d = (n : Int) := by omega
  have hm1 : (1 : Int) + d2 = (m : Int) := by omega
  have hn2 : 1 ≤ n := by omega
  have hm2 : 1 ≤ m := by omega
  have hn4 : n ≤ 4 := by omega
  have hm4 : m ≤ 4 := by omega
  clear hn hm
  obtain ⟨P, Q, hP, hQ, hQ1, hQ2, hM⟩ := mask_let (k := n) (by omega)
  obtain ⟨P2, Q3, hP2, hQ3, hQ4, hQ5, hM2⟩ := mask_let (k := m) (by omega)
  clear hQ1 hQ2 hQ4 hQ5
  have hma := hM one h1
  have hmb := hM2 two h2
  clear hM hM2
  have hla : one % 2 ^ n < 2 ^ n := Nat.mod_lt _ (Nat.pow_pos (by omega))
  have hlb : two % 2 ^ m < 2 ^ m := Nat.mod_lt _ (Nat.pow_pos (by omega))
  obtain ⟨a, hae⟩ : ∃ a, a = one % 2 ^ n := ⟨_, rfl⟩
  obtain ⟨b, hbe⟩ : ∃ b, b = two % 2 ^ m := ⟨_, rfl⟩
  rw [← hae] at hma hla
  rw [← hbe] at hmb hlb
  have h16n : 2 ^ n ≤ 2 ^ 4 := Nat.pow_le_pow_right (by omega) hn4
  have h16m : 2 ^ m ≤ 2 ^ 4 := Nat.pow_le_pow_right (by omega) hm4
  have ha16 : a < 16 := by omega
  have hb16 : b < 16 := by omega
  have hLA := Lib.hid hla
  have hLB := Lib.hid hlb
  have hN16n := Lib.hid h16n
  have hM16 := Lib.hid h16m
  clear hae hbe hla hlb h16n h16m
  have cga := Lib.hid (fun w' => given_any n a (by omega) (by omega) _ _ rfl rfl w')
  have cgb := Lib.hid (fun w' => given_any m b (by omega) (by omega) _ _ rfl rfl w')
  have hTH := Lib.hid hT
  have _k1 := hT
  have hmm := @run_makeMap Tryd.prog
  clear hT
  go_enter Tryd.func11, Tryd.ntmps11
  go_wp2_with (first
    | (with_reducible show wpList _ _ _ (⟨_, .box 55 _, _, _, _, _⟩ :: _) _ _
       refine wpList_box_blk rfl 55 _ rfl #[.int .u8 (x : Int), .int .u8 (y : Int)] rfl ?_
       intro w1 g3 hG1 hgr1 hge1
       have hb1 := below_none (Below.refl w.heap.size w) hgr1 (Nat.le_refl _)
       have hx0 : w1.cell? ⟨g3, 0, none⟩ = some (.int .u8 (x : Int)) := hG1.cell 0
       have hx1 : w1.cell? ⟨g3, 1, none⟩ = some (.int .u8 (y : Int)) := hG1.cell 1
       clear hgr1))
  go_quiet (fail)
  have hb2 := below_drewN hb1 nq
  clear hx0 hx1 hG1 hge1 hb1
  generalize w1.drewN nq = w2 at *
  go_wp2_with (fail)
  go_quiet (fail)
  have hb3 := below_drewN hb2 nq
  clear hb2
  generalize w2.drewN nq = w3 at *
  go_wp2_with (first
    | (go_at_call 40; clear _k1; (with_reducible refine (cga.out _).mono ?_); rintro e w4 ⟨A1, c1, rfl, hrA, hb4⟩
       have hbe4 := hb3.trans (hb4.mono hb3.size)
       clear hb4 hb3)
    | (go_at_call 40; (with_reducible refine (cgb.out _).mono ?_); rintro e w5 ⟨A2, c2, rfl, hrB, hb5⟩
       have hbe5 := hbe4.trans (hb5.mono hbe4.size)
       have hrA5 := (hrA.below hb5).more hb5.size
       clear hb5 hbe4 hrA)
    | (with_reducible show wpList _ _ _ (⟨_, .alloc 40, _, _, _, _⟩ :: _) _ _
       refine wpList_alloc_blk rfl 40 rfl _ zero_pairP ?_
       intro w6 gP hP6 hgr6 hge6
       have hb6 := below_none (Below.refl w5.heap.size w5) hgr6 (Nat.le_refl _))
    | (with_reducible show wpList _ _ _ (⟨_, .store 40 _ _, _, _, _, _⟩ :: _) _ _
       refine wpList_store_blk rfl 40 _ _ rfl gP (pairC A1 n c1 A2 m c2) rfl rfl 40 (pairC none 0 0 none 0 0) hP6 (info_pair _ _ _ _ _ _) rfl (pairC_one _ _ _ _ _ _) ?_
       intro w7 hP7 hgr7
       have hb7 := below_some hb6 hgr7 hb6.size hge6
       obtain ⟨w8, hput, hM8, hgr8⟩ := (MapIs.made w7).put (by decide) ha16 hb16
       unfold pairU at hput))
  have hL0 := Lrs.start (n := n) (m := m) (Below.refl w7.heap.size w7) hM8 hgr8
  have hbe7 := hbe5.trans (hb7.mono hbe5.size)
  have hrA7 := (hrA5.below hb7).more hb7.size
  have hrB7 := (hrB.below hb7).more hb7.size
  clear hput hM8 hgr8 hgr6 hgr7 hb6 hb7 hge6 hP6 hrA5 hrB hbe5 hmm
  obtain ⟨C, hC⟩ : ∃ C, fewN (numB n a) (numB m b) = C := ⟨_, rfl⟩
  have hC31 : C ≤ 31 := by rw [← hC]; exact few_le hn4 hm4
  have hFew := Lib.hid (few_lay hn2 hm2 hLA.out hLB.out)
  rw [hC] at hFew
  have hCH := Lib.hid hC
  clear hC
  obtain ⟨g0, hg0⟩ : ∃ q, w7.heap.size = q := ⟨_, rfl⟩
  rw [hg0] at hL0 ⊢
  generalize w8.alloc (.cells #[.map (some g0)] 58) = w9 at *
  generalize w8.heap.size = gv at *
  have hmm := @run_makeMap Tryd.prog
  go_loopw [12, 13] (fun cv v wr => ∃ (i : Nat) (gs : List Nat), i ≤ C ∧ cv = .int .i64 i ∧ gs.length = i + 1 ∧ Lrs w7 wr n m a b v gs) (fun cv _ _ => C - (intOf cv).toNat)
  case atStart => exact ⟨0, [g0], by omega, rfl, rfl, hL0⟩
  case round =>
    clear hL0
    obtain ⟨i, gs, hi, rfl, hgl, hL⟩ := hrel
    obtain ⟨wa, rfl⟩ : ∃ x, x = wr := ⟨wr, rfl⟩
    obtain ⟨gL, cap, rfl, hcap, hcell⟩ := hL.form (by omega)
    obtain ⟨N1, hN1⟩ : ∃ q, i + 1 = q := ⟨_, rfl⟩
    rw [hN1] at hgl
    rw [hgl] at hL hcap ⊢
    have hiN : (i : Int) < N1 := by omega
    have hi100 : (i : Int) < 100 := by omega
    have hN33 : N1 ≤ 33 := by omega
    obtain ⟨g, hg⟩ : ∃ g, gs[i]? = some g := ⟨_, List.getElem?_eq_getElem (by omega)⟩
    have hcg := hcell i g hg
    have hMg := (hL.maps i g hg).2
    have hgw := (hL.maps i g hg).1
    obtain ⟨b0, hb0, hlk⟩ := hMg.look (x := 0) (y := 0) (by omega) (by omega)
    simp only [pairU, Int.natCast_zero] at hlk
    have hglH := Lib.hid hgl
    have hN1H := Lib.hid hN1
    have hgH := Lib.hid hg
    by_cases hlt : i < C
    · have hb0f : b0 = false := by
        cases b0 with
        | false => rfl
        | true => exact absurd (hb0.1 rfl) (hFew.out.2 i hlt)
      subst hb0f
      obtain ⟨s, hs⟩ : ∃ s, i % 2 = s := ⟨_, rfl⟩
      have hs2 : s < 2 := by omega
      have hsi : Int.tmod (i : Int) 2 = s := by rw [Int.tmod_eq_emod_of_nonneg (by omega)]; omega
      obtain ⟨sz, hsz⟩ : ∃ z, pk s n m = z := ⟨_, rfl⟩
      have hsz4 : sz ≤ 4 := by rw [← hsz]; unfold pk; split <;> omega
      have hidx := run_index_cells (P := Tryd.prog) #[.int .i64 (n : Int), .int .i64 (m : Int)] .i64 s (.int .i64 (sz : Int)) Tryd.underlying60 Tryd.underlying3 rfl (by kernel_rfl) hs2 (by rw [two_at hs2, hsz])
      have hL1 := hL.alloc (.map #[] 0)
      have hcg1 : (wa.alloc (.map #[] 0)).cell? ⟨gL, i, none⟩ = some (.map (some g)) := hL1.cellAt hg
      have hMg1 := (hL1.maps i g hg).2
      have hMN := MapIs.made wa
      have hne := Lib.hid (fun (j g' : Nat) (hj : gs[j]? = some g') => (show g' ≠ wa.heap.size by have := (hL.maps j g' hj).2.lt; omega))
      have hszH := Lib.hid hsz
      have hsH := Lib.hid hs
      clear hb0 hcell hgl hg hN1 hsz hs hMg
      go_wp2_with (first
        | (at_range
           refine wpList_range_pairs rfl _ rfl rfl hMg1 ?_
           intro w10 cnt hR hcnt hgr10 hsz10))
      have hL10 := hL1.none_ hgr10
      have hN10 := hMN.kept hgr10 (by simp)
      have hNb := hL.be.size
      have hrb := hL1.be.size
      have hrN : (wa.alloc (.map #[] 0)).heap.size ≠ wa.heap.size := by show (wa.heap.push _).size ≠ _; simp
      obtain ⟨r, hr⟩ : ∃ q, (wa.alloc (.map #[] 0)).heap.size = q := ⟨_, rfl⟩
      rw [hr] at hR hrb hrN ⊢
      obtain ⟨gN, hgN⟩ : ∃ q, wa.heap.size = q := ⟨_, rfl⟩
      rw [hgN] at hne hN10 hNb hrN ⊢
      have hgNe : g ≠ gN := hne.out i g hgH.out
      obtain ⟨E, hE⟩ : ∃ E, 4 ^ i = E := ⟨_, rfl⟩
      have hE60 : E ≤ 4 ^ 30 := by rw [← hE]; exact Nat.pow_le_pow_right (by omega) (by omega)
      have hE61 : E ≤ 1152921504606846976 := Nat.le_trans hE60 (by decide)
      rw [hE] at hcnt
      have hEH := Lib.hid hE
      clear hr hgN hE hE60 hMN hcg1 hMg1 hcg hlk hidx hmm hgr10 hsz10 hL hL1 hgw hcap
      go_frame
      go_loopw [94] (fun _ wr => ∃ (F : Nat → Nat → Prop) (cnt nb : Nat), RngIs wr g r F cnt ∧ Hid (∀ x y, F x y → lay n m a b i x y) ∧ nb + 4 * cnt ≤ 4 * E ∧ MapIs wr gN (nxP (lay n m a b i) F s sz) nb ∧ Lrs w7 wr n m a b (.slice (some ⟨gL, 0, none⟩) N1 cap) gs) (fun _ wr => wr.rangeLeft g r)
      case atStart => exact ⟨_, _, 0, hR, Lib.hid (fun _ _ h => h), by omega, hN10.cong (fun _ _ _ _ => nxP_start.symm), hL10⟩
      case round =>
        clear hR hL10 hN10 hcnt
        obtain ⟨F, cnt, nb, hR, hFL, hnb, hN, hL⟩ := hrel
        obtain ⟨wb, rfl⟩ : ∃ x, x = wr := ⟨wr, rfl⟩
        go_wp2_with (first
          | (at_next; refine wpList_next_pairs rfl _ rfl rfl hR ?_ ?_))
        · intro hc0 hF0
          subst hc0
          have hN2 : MapIs wb gN (lay n m a b gs.length) (4 ^ gs.length) := by
            rw [hglH.out, ← hN1H.out, Nat.pow_succ, hEH.out]
            have hnb2 : nb ≤ E * 4 := by omega
            refine (hN.cong (fun x y _ _ => ?_)).more hnb2
            rw [← hsH.out, ← hszH.out, hsH.out]
            have h := nx_layer (x := x) (y := y) (i := i) hLA.out hLB.out hN16n.out hM16.out hF0
            rw [hsH.out] at h
            exact h
          have hlen : gs.length ≤ 1000000000 := by rw [hglH.out]; omega
          have hL2 := hL.alloc (.cells #[.map (some gN)] 58)
          have hN3 := hN2.kept (World.grownBy_alloc wb (.cells #[.map (some gN)] 58) none) (by simp)
          have hNH := Lib.hid hN3
          clear hN2 hN3
          go_wp2_with (first
            | (at_builtin
               refine wpList_pushM rfl _ _ rfl rfl hL2.row _ 1 gN rfl (Blk.new _ _ _) hlen hL2.be.size ?_
               intro v' w12 ho12 hgr12
               have hL12 := hL2.push ho12 hgr12 hNb hNH.out))
          go_roundw
          case rel => exact ⟨i + 1, gs ++ [gN], by omega, by go_num, by rw [List.length_append, List.length_singleton, hglH.out, hN1H.out], hL12⟩
          case measure => simp only [intOf]; omega
        · intro x y w11 cnt1 hx16 hy16 hFx hR1 hlt1 hgr11 hen
          have hL11 := hL.iter hR hrb hgr11
          have hN11 := hN.kept hgr11 (fun e => hrN (by injection e with e; exact e.symm))
          have hlx := Lib.hid (hFL.out x y hFx)
          have hxy := Lib.hid (lay_lt hLA.out hLB.out hlx.out)
          unfold pairU at hen ⊢
          have hle := Lib.hid hR.left_eq
          clear hR hN hL hgr11
          go_wp2_with (first
            | (with_reducible show wpList _ _ _ (⟨_, .alloc 57, _, _, _, _⟩ :: _) _ _
               refine wpList_alloc_blk rfl 57 rfl _ zero_both ?_
               intro w12 gX hX12 hgr12 hge12
               have hL12 := hL11.none_ hgr12
               have hN12 := hN11.kept hgr12 (by simp)
               have hR12 := hR1.kept hgr12 (by simp) (by simp))
            | (with_reducible show wpList _ _ _ (⟨_, .store 57 _ _, _, _, _, _⟩ :: _) _ _
               refine wpList_store_blk rfl 57 _ _ rfl gX #[.int .u32 (x : Int), .int .u32 (y : Int)] rfl rfl 57 _ hX12 info_both rfl (by simp [Value.oneCell']) ?_
               intro w13 hX13 hgr13
               have hgXb := Nat.le_trans hL11.be.size hge12
               have hL13 := hL12.blk hX12 (by decide) hgXb hgr13
               have hN13 := hN12.blk hX12 hgr13
               have hR13 := hR12.blk hX12 hgr13))
          clear hL11 hL12 hN11 hN12 hR1 hR12 hX12 hgr12 hgr13 hge12 hen
          obtain ⟨pv, hpv⟩ : ∃ q, pk s x y = q := ⟨_, rfl⟩
          have hpv16 : pv < 16 := by rw [← hpv]; unfold pk; split <;> assumption
          have hpvH := Lib.hid hpv
          have hsi0 : (0 : Int) ≤ s := by omega
          have hs2i : (s : Int) < 2 := by omega
          clear hpv
          go_loopw [99] (fun v wr => ∃ k nb' : Nat, k ≤ sz ∧ v = .int .i64 k ∧ nb' ≤ nb + k ∧ RngIs wr g r (strk F x y) cnt1 ∧ MapIs wr gN (nxK (lay n m a b i) F s sz x y k) nb' ∧ Blk wr gX 57 #[.int .u32 (x : Int), .int .u32 (y : Int)] ∧ Lrs w7 wr n m a b (.slice (some ⟨gL, 0, none⟩) N1 cap) gs) (fun v _ => sz - (intOf v).toNat)
          case atStart => exact ⟨0, nb, by omega, rfl, by omega, hR13, hN13.cong (fun _ _ _ _ => nxK_zero.symm), hX13, hL13⟩
          case round =>
            clear hR13 hN13 hX13 hL13
            obtain ⟨k, nb', hk, rfl, hnb', hR, hN, hX, hL⟩ := hrel
            obtain ⟨wc, rfl⟩ : ∃ x, x = wr := ⟨wr, rfl⟩
            by_cases hlt2 : k < sz
            · have hlti2 : (k : Int) < sz := by omega
              have hcX : wc.cell? ⟨gX, s, none⟩ = some (.int .u32 (pv : Int)) := by rw [hX.cell, pair_at hs2, hpvH.out]
              have cf := Lib.hid (free_any pv k (by omega) (by omega) _ _ rfl rfl wc)
              obtain ⟨fb, hfb⟩ : ∃ q, freeB pv k = q := ⟨_, rfl⟩
              rw [hfb] at cf
              have hfbH := Lib.hid hfb
              clear hfb
              cases fb with
              | false =>
                go_wp2_with (first
                  | (go_at_call 42; (with_reducible refine cf.out.mono ?_); rintro e w14 ⟨rfl, hb14⟩
                     have hgr14 : wc.grownBy w14 none := ⟨hb14.os, hb14.tape, hb14.output, hb14.size, fun i hi _ => hb14.block i hi⟩))
                go_roundw
                case rel => exact ⟨k + 1, nb', by omega, by go_num, by omega, hR.none_ hgr14, (hN.none_ hgr14).cong (fun _ _ _ _ => (nxK_skip (by rw [hpvH.out]; exact hfbH.out)).symm), hX.none_ hgr14, hL.none_ hgr14⟩
                case measure => simp only [intOf]; omega
              | true =>
                have hmv := mv_lt (s := s) (k := k) hxy.out.1 hxy.out.2 hs2 (by rw [hszH.out]; exact hlt2)
                have hxo := xor_go pv k (by omega) (by omega)
                obtain ⟨xo, hxe⟩ : ∃ q, pv ^^^ 2 ^ k = q := ⟨_, rfl⟩
                rw [hxe] at hxo
                have hxo2 : bits .xor .u32 (pv : Int) (IntKind.u32.wrap ((2 : Int) ^ k)) = (xo : Int) := hxo
                have hxeH := Lib.hid hxe
                clear hxe
                go_wp2_with (first
                  | (go_at_call 42; (with_reducible refine cf.out.mono ?_); rintro e w14 ⟨rfl, hb14⟩
                     have hgr14 : wc.grownBy w14 none := ⟨hb14.os, hb14.tape, hb14.output, hb14.size, fun i hi _ => hb14.block i hi⟩
                     have hR14 := hR.none_ hgr14
                     have hN14 := hN.none_ hgr14
                     have hX14 := hX.none_ hgr14
                     have hL14 := hL.none_ hgr14)
                  | (with_reducible show wpList _ _ _ (⟨_, .load 57 (.tmp 17), _, _, _, _⟩ :: _) _ _
                     refine wpList_load_blk rfl 57 _ rfl gX rfl 57 #[.int .u32 (x : Int), .int .u32 (y : Int)] _ hX14 Tryd.underlying57 rfl info_both ?_)
                  | (with_reducible show wpList _ _ _ (⟨_, .alloc 57, _, _, _, _⟩ :: _) _ _
                     refine wpList_alloc_blk rfl 57 rfl _ zero_both ?_
                     intro w15 gY hY15 hgr15 hge15
                     have hL15 := hL14.none_ hgr15
                     have hN15 := hN14.none_ hgr15
                     have hR15 := hR14.none_ hgr15
                     have hX15 := hX14.none_ hgr15)
                  | (with_reducible show wpList _ _ _ (⟨_, .store 57 _ _, _, _, _, _⟩ :: _) _ _
                     refine wpList_store_blk rfl 57 _ _ rfl gY #[.int .u32 (x : Int), .int .u32 (y : Int)] rfl rfl 57 _ hY15 info_both rfl (by simp [Value.oneCell']) ?_
                     intro w16 hY16 hgr16
                     have hgYb := Nat.le_trans hL14.be.size hge15
                     have hXY : gX ≠ gY := by have := hX14.lt; omega
                     have hL16 := hL15.blk hY15 (by decide) hgYb hgr16
                     have hN16 := hN15.blk hY15 hgr16
                     have hR16 := hR15.blk hY15 hgr16
                     have hX16 := hX15.some_ hgr16 (by have := hX14.lt; omega)))
                have hcY : w16.cell? ⟨gY, s, none⟩ = some (.int .u32 (pv : Int)) := by rw [hY16.cell, pair_at hs2, hpvH.out]
                have hfY := hY16.frozen s
                go_frame
                go_still_tail 7, (by kernel_rfl)
                change wpList _ _ _ _ _ w16.drew
                have hY17 := hY16.drew
                have hg17 := grown_drew (World.grownBy.refl w16 none)
                have hN17 := hN16.none_ hg17
                have hR17 := hR16.none_ hg17
                have hX17 := hX16.none_ hg17
                have hL17 := hL16.none_ hg17
                clear hY16 hg17 hN16 hR16 hX16 hL16 hcY hfY hN14 hR14 hX14 hL14 hN15 hR15 hX15 hL15 hN hR hX hL hY15 hgr15 hgr16 hgr14 hb14 hcX hxo
                generalize w16.drew = w17 at *
                have hcY : w17.cell? ⟨gY, s, none⟩ = some (.int .u32 (pv : Int)) := by rw [hY17.cell, pair_at hs2, hpvH.out]
                have hfY := hY17.frozen s
                have hY18 := hY17.set_ s (.int .u32 ((pv ^^^ 2 ^ k : Nat) : Int))
                rw [← hpvH.out, pair_set hs2, hpvH.out, hxeH.out] at hY18
                have hg18 := grown_set w17 ⟨gY, s, none⟩ (.int .u32 (xo : Int))
                have hN18 := hN17.blk hY17 hg18
                have hR18 := hR17.blk hY17 hg18
                have hX18 := hX17.far (p := ⟨gY, s, none⟩) hXY (.int .u32 (xo : Int))
                have hL18 := hL17.blk hY17 (by decide) hgYb hg18
                have hmax : nb' < maxLen := by
                  have : maxLen = 9223372036854775807 := by decide
                  omega
                obtain ⟨w19, hput, hN19, hgr19⟩ := hN18.put hmax (x := mvX s k x) (y := mvY s k y) (by have := hmv.1; have := hN16n.out; omega) (by have := hmv.2; have := hM16.out; omega)
                unfold pairU at hput
                obtain ⟨u1, hu1⟩ : ∃ q, mvX s k x = q := ⟨_, rfl⟩
                obtain ⟨u2, hu2⟩ : ∃ q, mvY s k y = q := ⟨_, rfl⟩
                rw [hu1, hu2] at hput hN19 hY18
                have hu1H := Lib.hid hu1
                have hu2H := Lib.hid hu2
                clear hu1 hu2 hmv
                go_wp2_with (first
                  | (with_reducible show wpList _ _ _ (⟨_, .load 57 (.tmp 19), _, _, _, _⟩ :: _) _ _
                     refine wpList_load_blk rfl 57 _ rfl gY rfl 57 #[.int .u32 (u1 : Int), .int .u32 (u2 : Int)] _ hY18 Tryd.underlying57 rfl info_both ?_))
                go_roundw
                case rel => exact ⟨k + 1, nb' + 1, by omega, by go_num, by omega, hR18.other hN18 hgNe hgr19, hN19.cong (fun _ _ _ _ => by rw [nxK_put (by rw [hpvH.out]; exact hfbH.out), hu1H.out, hu2H.out]), hX18.some_ hgr19 (blk_ne_map hX18 hN18), hL18.other hN18 hNb hne.out hgr19⟩
                case measure => simp only [intOf]; omega
            · have hlti2 : ¬ (k : Int) < sz := by omega
              obtain rfl : sz = k := by omega
              go_wp2_with (fail)
              go_roundw
              case rel => exact ⟨strk F x y, cnt1, nb', hR, Lib.hid (fun a b h => hFL.out a b h.1), by omega, hN.cong (fun _ _ _ _ => nxK_end hlx.out), hL⟩
              case measure => rw [hR.left_eq, hle.out]; exact hlt1
    · obtain rfl : C = i := by omega
      have hb0t : b0 = true := hb0.2 hFew.out.1
      subst hb0t
      have hbw := hbe7.trans (hL.be.mono hbe7.size)
      have hS := ((Wk.start (hTH.out.later hbw)).add ((hrA7.below hL.be).more hL.be.size)).add ((hrB7.below hL.be).more hL.be.size)
      have hPa := hP7.below hL.be hP7.lt
      have hpe : pairE (bitS n a) (bitS m b) = 0 := pairE_4 (chk_bits hn2 (by omega)) (chk_bits hm2 (by omega)) (by rw [bitS_length]; omega) (by rw [bitS_length]; omega)
      have htog : togN (bitS n a) (bitS m b) = C := by unfold togN; rw [if_pos hpe]; exact hCH.out
      have hmaxL : maxLen = 9223372036854775807 := by decide
      have cT := Lib.hid (fun c d => v_together (c := c) (d := d) hS (.tail _ (.head _)) (show n ≤ maxLen by omega) (.head _) (show m ≤ maxLen by omega))
      have htl : (turnsL (bitS n a) (bitS m b)).length = C := by
        unfold turnsL
        rw [if_pos hpe, turnsGo_length]
        exact hCH.out
      obtain ⟨TL, hTL⟩ : ∃ q, turnsL (bitS n a) (bitS m b) = q := ⟨_, rfl⟩
      have cU := Lib.hid (fun w' (h : Wk wa w' [(A2, m, bitS m b), (A1, n, bitS n a)]) c d => v_turns (c := c) (d := d) h (.tail _ (.head _)) (show n ≤ maxLen by omega) (.head _) (show m ≤ maxLen by omega))
      rw [hpe, htog] at cT
      rw [hpe, hTL] at cU
      rw [hTL] at htl
      have hTLH := Lib.hid hTL
      have htlH := Lib.hid htl
      have hpeH := Lib.hid hpe
      have hCN : (C : Int) + 1 = N1 := by omega
      have hmkM := run_make_row' (P := Tryd.prog) 59 58 (.map none) 8 Tryd.underlying59 infoMap rfl .i64 .i64 N1 (by omega) (by omega)
      clear hb0 hcell hTL htl hpe htog hmaxL hg hMg hgl hN1
      have hgLw := hL.row
      go_wp2_with (first
        | (with_reducible show wpList _ _ _ (⟨_, .load 40 (.tmp 11), _, _, _, _⟩ :: _) _ _
           refine wpList_load_blk rfl 40 _ rfl gP rfl 40 (pairC A1 n c1 A2 m c2) _ (by assumption) Tryd.underlying40 rfl (info_pair _ _ _ _ _ _) ?_)
        | (go_at_call 35; (with_reducible refine (cT.out _ _).mono ?_); rintro e wt ⟨rfl, hS2⟩
           have hPb := hPa.below hS2.2.1 hPa.lt)
        | (go_at_call 37; (with_reducible refine (cU.out _ hS2 _ _).mono ?_); rintro e wu ⟨AT, nT, cT2, rfl, _, hS3⟩
           have hrT := hS3.get (.head _)
           have hbu := hS3.2.1
           have hTu := hS3.2.2
           obtain rfl : C = nT := by rw [← htlH.out]; exact hrT.len
           have hLu := hL.none_ (grown_of hbu)
           clear hS3
           obtain ⟨wp, hput, hMp, hgrp⟩ := (MapIs.made (wu.alloc (.cells (madeCells #[.map none] N1) 58))).put (by decide) (x := 0) (y := 0) (by omega) (by omega)
           have hsu : (wu.alloc (.cells (madeCells #[.map none] N1) 58)).heap.size = wu.heap.size + 1 := by show (wu.heap.push _).size = _; simp
           rw [hsu] at hput hMp hgrp
           simp only [pairU, Int.natCast_zero] at hput
           obtain ⟨⟨ug, hug⟩, hfg, ⟨H0, hG0⟩, hbG⟩ := Gds.start (n := n) (m := m) (a := a) (b := b) hLu.be hN1H.out hMp hgrp
           clear hsu))
      have hLG := hLu.none_ (grown_of hbG)
      have hvG : (Value.slice (some ⟨gL, 0, none⟩) N1 cap).ownBlock ≠ some wu.heap.size := fun e => by have := (World.ownsRow.lt hLu.row _ e).2; omega
      have hgGw : wu.heap.size ≤ wu.heap.size := Nat.le_refl _
      obtain ⟨wG, hwG⟩ : ∃ q, wp.setCell ⟨wu.heap.size, C, none⟩ (.map (some (wu.heap.size + 1))) = q := ⟨_, rfl⟩
      rw [hwG] at hG0 hbG hLG ⊢
      obtain ⟨gG, hgG⟩ : ∃ q, wu.heap.size = q := ⟨_, rfl⟩
      rw [hgG] at hG0 hbG hvG ⊢
      have hgGw : gG ≤ wu.heap.size := by omega
      have hrTG := hrT
      rw [hgG] at hrTG
      have hmm := @run_makeMap Tryd.prog
      clear hput hMp hgrp hug hfg hwG hPb hPa hLu hmkM hL cT cU hgLw
      clear hgG
      go_loopw [25] (fun v wr => ∃ (t : Nat) (H : Nat → Nat), t ≤ C ∧ v = .int .i64 ((t : Int) - 1) ∧ Gds w7 wr n m a b C gG H t ∧ Lrs w7 wr n m a b (.slice (some ⟨gL, 0, none⟩) N1 cap) gs ∧ Below gG wu wr) (fun v _ => (intOf v + 1).toNat)
      case atStart => exact ⟨C, H0, Nat.le_refl _, rfl, hG0, hLG, hbG⟩
      case round =>
        clear hG0 hLG hbG
        obtain ⟨t, H, ht, rfl, hG, hL, hb⟩ := hrel
        obtain ⟨wa2, rfl⟩ : ∃ x, x = wr := ⟨wr, rfl⟩
        cases t with
        | succ u =>
          rw [eq_neg]
          have hu : u < C := by omega
          have hu0 : (0 : Int) ≤ u := by omega
          obtain ⟨g, hg⟩ : ∃ g, gs[u]? = some g := ⟨_, List.getElem?_eq_getElem (by rw [hglH.out, ← hN1H.out]; omega)⟩
          obtain ⟨⟨uf, huf⟩, hff, hFi, hMN⟩ := Fil.start hG hL hb hgGw hu hvG
          have hcg1 := hFi.lr.cellAt hg
          have hMg1 := (hFi.lr.maps u g hg).2
          have huN : (u : Int) < N1 := by omega
          obtain ⟨s, hs⟩ : ∃ s, u % 2 = s := ⟨_, rfl⟩
          have hs2 : s < 2 := by omega
          have hs2i : (s : Int) < 2 := by omega
          have hsi0 : (0 : Int) ≤ s := by omega
          have hsi : Int.tmod (u : Int) 2 = s := by rw [Int.tmod_eq_emod_of_nonneg (by omega)]; omega
          obtain ⟨sz, hsz⟩ : ∃ z, pk s n m = z := ⟨_, rfl⟩
          have hsz4 : sz ≤ 4 := by rw [← hsz]; unfold pk; split <;> omega
          have hne := Lib.hid (fun (j g' : Nat) (hj : gs[j]? = some g') => (show g' ≠ wa2.heap.size by have := (hL.maps j g' hj).2.lt; omega))
          have hne2 := Lib.hid (fun (t : Nat) (h1 : u + 1 ≤ t) (h2 : t ≤ C) => (show H t ≠ wa2.heap.size by have := (hG.ent t h1 h2).2.2.lt; omega))
          have hszH := Lib.hid hsz
          have hsH := Lib.hid hs
          have hgH := Lib.hid hg
          have hgN := hb.size
          clear hsz hs hg hG hL
          go_wp2_with (first
            | (at_range
               refine wpList_range_pairs rfl _ rfl rfl hMg1 ?_
               intro w10 cnt hR hcnt hgr10 hsz10))
          have hFi10 := hFi.none_ hgr10
          have hN10 := hMN.none_ hgr10
          have hrb : gG ≤ ((wa2.alloc (.map #[] 0)).setCell ⟨gG, u, none⟩ (.map (some wa2.heap.size))).heap.size := hFi.sz
          obtain ⟨r, hr⟩ : ∃ q, ((wa2.alloc (.map #[] 0)).setCell ⟨gG, u, none⟩ (.map (some wa2.heap.size))).heap.size = q := ⟨_, rfl⟩
          have hrN : r ≠ wa2.heap.size := by rw [← hr]; show ((wa2.heap.push _).modify _ _).size ≠ _; simp
          rw [hr] at hR hrb ⊢
          obtain ⟨gN, hgN2⟩ : ∃ q, wa2.heap.size = q := ⟨_, rfl⟩
          have hgN3 : gG ≤ gN := by have := hb.size; omega
          rw [hgN2] at hne hne2 hFi10 hN10 hrN ⊢
          have hgNe : g ≠ gN := hne.out u g hgH.out
          obtain ⟨E, hE⟩ : ∃ E, 4 ^ u = E := ⟨_, rfl⟩
          have hE60 : E ≤ 4 ^ 30 := by rw [← hE]; exact Nat.pow_le_pow_right (by omega) (by omega)
          have hE61 : E ≤ 1152921504606846976 := Nat.le_trans hE60 (by decide)
          rw [hE] at hcnt
          clear hr hgN2 hE hE60 hMN hcg1 hMg1 hgr10 hsz10 hFi huf hff hb hgN
          go_frame
          go_loopw [177] (fun _ wr => ∃ (F : Nat → Nat → Prop) (cnt nb : Nat), RngIs wr g r F cnt ∧ Hid (∀ x y, F x y → lay n m a b u x y) ∧ nb + 4 * cnt ≤ 4 * E ∧ MapIs wr gN (goP (lay n m a b u) (gd n m a b C (C - (u + 1))) F s sz) nb ∧ Fil w7 wu wr n m a b C gG H u gN (.slice (some ⟨gL, 0, none⟩) N1 cap) gs) (fun _ wr => wr.rangeLeft g r)
          case atStart => exact ⟨_, _, 0, hR, Lib.hid (fun _ _ h => h), by omega, hN10.cong (fun _ _ _ _ => goP_start.symm), hFi10⟩
          case round =>
            clear hR hFi10 hN10 hcnt
            obtain ⟨F, cnt, nb, hR, hFL, hnb, hN, hFi⟩ := hrel
            obtain ⟨wb, rfl⟩ : ∃ x, x = wr := ⟨wr, rfl⟩
            go_wp2_with (first
              | (at_next; refine wpList_next_pairs rfl _ rfl rfl hR ?_ ?_))
            · intro hc0 hF0
              subst hc0
              have hN2 : MapIs wb gN (gd n m a b C (C - u)) nb := by
                refine hN.cong (fun x y hx hy => ?_)
                rw [← hsH.out, ← hszH.out, hsH.out]
                have h := go_layer (n := n) (m := m) (a := a) (b := b) hu hx hy hF0
                rw [hsH.out] at h
                exact h
              have hGn := hFi.gds.more hFi.ce (Nat.le_trans hFi.gds.bG hgN3) hN2 (by omega)
              have hLn := hFi.lr
              have hbn := hFi.be
              clear hN2 hN hFi hR
              go_wp2_with (fail)
              go_roundw
              case rel => exact ⟨u, _, by omega, by go_num, hGn, hLn, hbn⟩
              case measure => simp only [intOf]; omega
            · intro x y w11 cnt1 hx16 hy16 hFx hR1 hlt1 hgr11 hen
              have hF11 := hFi.iter hR hrb hgr11
              have hN11 := hN.kept hgr11 (fun e => hrN (by injection e with e; exact e.symm))
              have hlx := Lib.hid (hFL.out x y hFx)
              have hxy := Lib.hid (lay_lt hLA.out hLB.out hlx.out)
              unfold pairU at hen ⊢
              have hle := Lib.hid hR.left_eq
              clear hR hN hFi hgr11
              have hidx := run_index_cells (P := Tryd.prog) #[.int .i64 (n : Int), .int .i64 (m : Int)] .i64 s (.int .i64 (sz : Int)) Tryd.underlying60 Tryd.underlying3 rfl (by kernel_rfl) hs2 (by rw [two_at hs2, hszH.out])
              go_wp2_with (first
                | (with_reducible show wpList _ _ _ (⟨_, .alloc 57, _, _, _, _⟩ :: _) _ _
                   refine wpList_alloc_blk rfl 57 rfl _ zero_both ?_
                   intro w12 gX hX12 hgr12 hge12
                   have hF12 := hF11.none_ hgr12
                   have hN12 := hN11.none_ hgr12
                   have hR12 := hR1.none_ hgr12)
                | (with_reducible show wpList _ _ _ (⟨_, .store 57 _ _, _, _, _, _⟩ :: _) _ _
                   refine wpList_store_blk rfl 57 _ _ rfl gX #[.int .u32 (x : Int), .int .u32 (y : Int)] rfl rfl 57 _ hX12 info_both rfl (by simp [Value.oneCell']) ?_
                   intro w13 hX13 hgr13
                   have hgXb := Nat.le_trans hF11.sz hge12
                   have hF13 := hF12.var hX12 (by decide) hgXb hgr13
                   have hN13 := hN12.blk hX12 hgr13
                   have hR13 := hR12.blk hX12 hgr13))
              clear hF11 hF12 hN11 hN12 hR1 hR12 hX12 hgr12 hgr13 hge12 hen hidx
              obtain ⟨pv, hpv⟩ : ∃ q, pk s x y = q := ⟨_, rfl⟩
              have hpv16 : pv < 16 := by rw [← hpv]; unfold pk; split <;> assumption
              have hpvH := Lib.hid hpv
              clear hpv
              go_loopw [186] (fun v wr => ∃ k nb' : Nat, k ≤ sz ∧ v = .int .i64 k ∧ nb' ≤ nb + k ∧ RngIs wr g r (strk F x y) cnt1 ∧ MapIs wr gN (goK (lay n m a b u) (gd n m a b C (C - (u + 1))) F s sz x y k) nb' ∧ Blk wr gX 57 #[.int .u32 (x : Int), .int .u32 (y : Int)] ∧ Fil w7 wu wr n m a b C gG H u gN (.slice (some ⟨gL, 0, none⟩) N1 cap) gs) (fun v _ => sz - (intOf v).toNat)
              case atStart => exact ⟨0, nb, by omega, rfl, by omega, hR13, hN13.cong (fun _ _ _ _ => goK_zero.symm), hX13, hF13⟩
              case round =>
                clear hR13 hN13 hX13 hF13
                obtain ⟨k, nb', hk, rfl, hnb', hR, hN, hX, hFi⟩ := hrel
                obtain ⟨wc, rfl⟩ : ∃ x, x = wr := ⟨wr, rfl⟩
                by_cases hlt2 : k < sz
                · have hlti2 : (k : Int) < sz := by omega
                  have hmv := mv_lt (s := s) (k := k) hxy.out.1 hxy.out.2 hs2 (by rw [hszH.out]; exact hlt2)
                  have hxo := xor_go pv k (by omega) (by omega)
                  obtain ⟨xo, hxe⟩ : ∃ q, pv ^^^ 2 ^ k = q := ⟨_, rfl⟩
                  rw [hxe] at hxo
                  have hxo2 : bits .xor .u32 (pv : Int) (IntKind.u32.wrap ((2 : Int) ^ k)) = (xo : Int) := hxo
                  have hxeH := Lib.hid hxe
                  clear hxe
                  obtain ⟨u1, hu1⟩ : ∃ q, mvX s k x = q := ⟨_, rfl⟩
                  obtain ⟨u2, hu2⟩ : ∃ q, mvY s k y = q := ⟨_, rfl⟩
                  have hu1H := Lib.hid hu1
                  have hu2H := Lib.hid hu2
                  have hu16 : u1 < 16 := by have := hmv.1; have := hN16n.out; omega
                  have hv16 : u2 < 16 := by have := hmv.2; have := hM16.out; omega
                  clear hu1 hu2 hmv
                  go_wp2_with (first
                    | (with_reducible show wpList _ _ _ (⟨_, .load 57 (.tmp 27), _, _, _, _⟩ :: _) _ _
                       refine wpList_load_blk rfl 57 _ rfl gX rfl 57 #[.int .u32 (x : Int), .int .u32 (y : Int)] _ hX Tryd.underlying57 rfl info_both ?_)
                    | (with_reducible show wpList _ _ _ (⟨_, .alloc 57, _, _, _, _⟩ :: _) _ _
                       refine wpList_alloc_blk rfl 57 rfl _ zero_both ?_
                       intro w15 gY hY15 hgr15 hge15
                       have hF15 := hFi.none_ hgr15
                       have hN15 := hN.none_ hgr15
                       have hR15 := hR.none_ hgr15
                       have hX15 := hX.none_ hgr15)
                    | (with_reducible show wpList _ _ _ (⟨_, .store 57 _ _, _, _, _, _⟩ :: _) _ _
                       refine wpList_store_blk rfl 57 _ _ rfl gY #[.int .u32 (x : Int), .int .u32 (y : Int)] rfl rfl 57 _ hY15 info_both rfl (by simp [Value.oneCell']) ?_
                       intro w16 hY16 hgr16
                       have hgYb := Nat.le_trans hFi.sz hge15
                       have hXY : gX ≠ gY := by have := hX.lt; omega
                       have hF16 := hF15.var hY15 (by decide) hgYb hgr16
                       have hN16 := hN15.blk hY15 hgr16
                       have hR16 := hR15.blk hY15 hgr16
                       have hX16 := hX15.some_ hgr16 hXY))
                  have hcY : w16.cell? ⟨gY, s, none⟩ = some (.int .u32 (pv : Int)) := by rw [hY16.cell, pair_at hs2, hpvH.out]
                  have hfY := hY16.frozen s
                  go_frame
                  go_still_tail 7, (by kernel_rfl)
                  change wpList _ _ _ _ _ w16.drew
                  have hY17 := hY16.drew
                  have hg17 := grown_drew (World.grownBy.refl w16 none)
                  have hN17 := hN16.none_ hg17
                  have hR17 := hR16.none_ hg17
                  have hX17 := hX16.none_ hg17
                  have hF17 := hF16.none_ hg17
                  clear hY16 hg17 hN16 hR16 hX16 hF16 hcY hfY hN15 hR15 hX15 hF15 hN hR hX hFi hY15 hgr15 hgr16 hxo
                  generalize w16.drew = w17 at *
                  have hcY : w17.cell? ⟨gY, s, none⟩ = some (.int .u32 (pv : Int)) := by rw [hY17.cell, pair_at hs2, hpvH.out]
                  have hfY := hY17.frozen s
                  have hY18 := hY17.set_ s (.int .u32 ((pv ^^^ 2 ^ k : Nat) : Int))
                  rw [← hpvH.out, pair_set hs2, hpvH.out, hxeH.out, hu1H.out, hu2H.out] at hY18
                  have hg18 := grown_set w17 ⟨gY, s, none⟩ (.int .u32 (xo : Int))
                  have hN18 := hN17.blk hY17 hg18
                  have hR18 := hR17.blk hY17 hg18
                  have hX18 := hX17.far (p := ⟨gY, s, none⟩) hXY (.int .u32 (xo : Int))
                  have hF18 := hF17.var hY17 (by decide) hgYb hg18
                  go_wp2_with (fail)
                  clear hY17 hN17 hR17 hX17 hF17 hcY hfY hg18 hxo2 hxeH
                  generalize w17.setCell ⟨gY, s, none⟩ (.int .u32 (xo : Int)) = w18 at *
                  have hcX : w18.cell? ⟨gX, s, none⟩ = some (.int .u32 (pv : Int)) := by rw [hX18.cell, pair_at hs2, hpvH.out]
                  have hcY0 : w18.cell? ⟨gY, 0, none⟩ = some (.int .u32 (u1 : Int)) := hY18.cell 0
                  have hcY1 : w18.cell? ⟨gY, 1, none⟩ = some (.int .u32 (u2 : Int)) := hY18.cell 1
                  obtain ⟨hcG, _, hMu⟩ := hF18.gds.ent (u + 1) (Nat.le_refl _) (by omega)
                  obtain ⟨b1, hb1, hlkN⟩ := hMu.lookN hu16 hv16
                  simp only [pairU] at hlkN
                  have hlk0 := hlkN 0
                  change (Instr.lookup 58 (.map (some (H (u + 1)))) (.agg #[.int .u32 (u1 : Int), .int .u32 (u2 : Int)]) false).run Tryd.prog w18 = .ok (.bool b1) w18 at hlk0
                  obtain ⟨gU, hgU⟩ : ∃ q, H (u + 1) = q := ⟨_, rfl⟩
                  rw [hgU] at hcG hlkN hlk0
                  obtain ⟨u3, hu3⟩ : ∃ q, u + 1 = q := ⟨_, rfl⟩
                  have hu3i : (u : Int) + 1 = u3 := by omega
                  have hu3N : (u3 : Int) < N1 := by omega
                  rw [hu3] at hcG
                  have hb1H := Lib.hid hb1
                  have hu3H := Lib.hid hu3
                  have cf := Lib.hid (fun q => free_q pv k (by omega) (by omega) (w18.drewN q))
                  obtain ⟨fb, hfb⟩ : ∃ q, freeB pv k = q := ⟨_, rfl⟩
                  rw [hfb] at cf
                  have hfbH := Lib.hid hfb
                  have hFH := Lib.hid hF18
                  have hNH := Lib.hid hN18
                  have hRH := Lib.hid hR18
                  have hXH := Lib.hid hX18
                  have hYH := Lib.hid hY18
                  clear hfb hb1 hMu hgU hu3 hF18 hN18 hR18 hX18 hY18
                  cases fb with
                  | false =>
                    clear hlkN hlk0
                    go_quiet (first
                      | (go_at_call 42; (with_reducible exact Calls.quiet_of (cf.out _))))
                    have hgq : w18.grownBy (w18.drewN nq) none := ⟨rfl, rfl, rfl, Nat.le_refl _, fun _ _ _ => rfl⟩
                    go_wp2_with (fail)
                    go_roundw
                    case rel => exact ⟨k + 1, nb', by omega, by go_num, by omega, hRH.out.none_ hgq, (hNH.out.none_ hgq).cong (fun _ _ _ _ => (goK_skip (fun h => by have h2 := h.1; rw [hpvH.out, hfbH.out] at h2; cases h2)).symm), hXH.out.none_ hgq, hFH.out.none_ hgq⟩
                    case measure => simp only [intOf]; omega
                  | true =>
                    cases b1 with
                    | false =>
                      go_quiet (first
                        | (go_at_call 42; (with_reducible exact Calls.quiet_of (cf.out _))))
                      have hgq : w18.grownBy (w18.drewN nq) none := ⟨rfl, rfl, rfl, Nat.le_refl _, fun _ _ _ => rfl⟩
                      go_wp2_with (fail)
                      go_roundw
                      case rel => exact ⟨k + 1, nb', by omega, by go_num, by omega, hRH.out.none_ hgq, (hNH.out.none_ hgq).cong (fun _ _ _ _ => (goK_skip (fun h => by have h2 := h.2; rw [hu1H.out, hu2H.out] at h2; have h3 := hb1H.out.2 h2; cases h3)).symm), hXH.out.none_ hgq, hFH.out.none_ hgq⟩
                      case measure => simp only [intOf]; omega
                    | true =>
                      go_quiet (first
                        | (go_at_call 42; (with_reducible exact Calls.quiet_of (cf.out _))))
                      have hgq : w18.grownBy (w18.drewN nq) none := ⟨rfl, rfl, rfl, Nat.le_refl _, fun _ _ _ => rfl⟩
                      have hN20 := hNH.out.none_ hgq
                      have hR20 := hRH.out.none_ hgq
                      have hX20 := hXH.out.none_ hgq
                      have hF20 := hFH.out.none_ hgq
                      clear hgq hNH hRH hXH hFH hYH hlkN hlk0 hcX hcY0 hcY1 hcG cf
                      generalize w18.drewN nq = w20 at *
                      have hcX0 : w20.cell? ⟨gX, 0, none⟩ = some (.int .u32 (x : Int)) := hX20.cell 0
                      have hcX1 : w20.cell? ⟨gX, 1, none⟩ = some (.int .u32 (y : Int)) := hX20.cell 1
                      have hcU := hF20.ce
                      have huN2 : (u : Int) < N1 := by omega
                      go_wp2_with (fail)
                      go_still_tail 5, (by kernel_rfl)
                      change wpList _ _ _ _ _ w20.drew
                      have hg21 := grown_drew (World.grownBy.refl w20 none)
                      have hN21 := hN20.none_ hg21
                      have hR21 := hR20.none_ hg21
                      have hX21 := hX20.none_ hg21
                      have hF21 := hF20.none_ hg21
                      clear hg21 hN20 hR20 hX20 hF20 hcX0 hcX1 hcU
                      generalize w20.drew = w21 at *
                      have hmax : nb' < maxLen := by
                        have : maxLen = 9223372036854775807 := by decide
                        omega
                      obtain ⟨w22, hput, hN22, hgr22⟩ := hN21.put hmax hx16 hy16
                      unfold pairU at hput
                      go_wp2_with (fail)
                      go_roundw
                      case rel => exact ⟨k + 1, nb' + 1, by omega, by go_num, by omega, hR21.other hN21 hgNe hgr22, hN22.cong (fun _ _ _ _ => (goK_put (by rw [hpvH.out]; exact hfbH.out) (by rw [hu1H.out, hu2H.out]; exact hb1H.out.1 (by first | rfl | trivial))).symm), hX21.some_ hgr22 (blk_ne_map hX21 hN21), hF21.other hN21 hgN3 hne2.out hne.out hgr22⟩
                      case measure => simp only [intOf]; omega
                · have hlti2 : ¬ (k : Int) < sz := by omega
                  obtain rfl : sz = k := by omega
                  go_wp2_with (fail)
                  go_roundw
                  case rel => exact ⟨strk F x y, cnt1, nb', hR, Lib.hid (fun a b h => hFL.out a b h.1), by omega, hN.cong (fun _ _ _ _ => goK_end hlx.out), hFi⟩
                  case measure => rw [hR.left_eq, hle.out]; exact hlt1
        | zero =>
          rw [show ((0 : Nat) : Int) - 1 = -1 from rfl]
          have hT0 : TL = turnsGo (pairR n m) C 0 (pairR (numB n a) (numB m b)) := by
            rw [← hTLH.out]
            unfold turnsL
            rw [if_pos hpeH.out, bitS_length, bitS_length]
            show turnsGo _ (fewN (numB n a) (numB m b)) _ _ = _
            rw [hCH.out]
            rfl
          have hTr := Lib.hid (show Trn n m a b C TL 0 a b (pairR (numB n a) (numB m b)) from ⟨by rw [List.drop_zero]; exact hT0, rfl, rfl, gd_all hn2 hm2 hLA.out hLB.out hFew.out.1⟩)
          have hP0 : Pst w7 wu wa2 n m a b C gG H := ⟨hG, hb, hL.be, hgGw⟩
          clear hT0 hL hG hb
          go_wp2_with (first
            | (with_reducible show wpList _ _ _ (⟨_, .alloc 57, _, _, _, _⟩ :: _) _ _
               refine wpList_alloc_blk rfl 57 rfl _ zero_both ?_
               intro w12 gX hX12 hgr12 hge12
               have hP12 := hP0.none_ hgr12)
            | (with_reducible show wpList _ _ _ (⟨_, .store 57 _ _, _, _, _, _⟩ :: _) _ _
               refine wpList_store_blk rfl 57 _ _ rfl gX #[.int .u32 (a : Int), .int .u32 (b : Int)] rfl rfl 57 _ hX12 info_both rfl (by simp [Value.oneCell']) ?_
               intro w13 hX13 hgr13
               have hgXb := Nat.le_trans hP0.sz hge12
               have hP13 := hP12.var hX12 (by decide) hgXb hgr13))
          clear hP12 hP0 hX12 hgr12 hgr13 hge12
          go_loopw [222] (fun v wr => ∃ (i x y : Nat) (A : Nat → Nat), i ≤ C ∧ v = .int .i64 i ∧ Hid (Trn n m a b C TL i x y A) ∧ x < 16 ∧ y < 16 ∧ Blk wr gX 57 #[.int .u32 (x : Int), .int .u32 (y : Int)] ∧ Pst w7 wu wr n m a b C gG H) (fun v _ => C - (intOf v).toNat)
          case atStart => exact ⟨0, a, b, _, by omega, rfl, hTr, ha16, hb16, hX13, hP13⟩
          case round =>
            clear hP13 hX13 hTr
            obtain ⟨i, x, y, A, hi, rfl, hTr, hx16, hy16, hX, hP⟩ := hrel
            obtain ⟨wb, rfl⟩ : ∃ x, x = wr := ⟨wr, rfl⟩
            by_cases hlt : i < C
            · have hlti : (i : Int) < C := by omega
              obtain ⟨ad, z, rfl, _, hcell, hz⟩ := (hrTG.below hP.be).at_ hlt
              obtain ⟨rg, A', hat, hrg, hfr, hgd, hTr2, hno⟩ := hTr.out.step hn2 hm2 hLA.out hLB.out hFew.out.1 hlt
              obtain rfl : z = (rg : Int) := by have h3 := hz.out.symm.trans hat; injection h3
              have hxy := Lib.hid (lay_lt hLA.out hLB.out ((gd_iff hn2 hm2 hLA.out hLB.out hFew.out.1 (by omega)).1 hTr.out.go).1)
              obtain ⟨s, hs⟩ : ∃ s, i % 2 = s := ⟨_, rfl⟩
              have hs2 : s < 2 := by omega
              have hs2i : (s : Int) < 2 := by omega
              have hsi0 : (0 : Int) ≤ s := by omega
              have hsi : Int.tmod (i : Int) 2 = s := by rw [Int.tmod_eq_emod_of_nonneg (by omega)]; omega
              rw [hs] at hrg hfr hgd hTr2 hno
              obtain ⟨sz, hsz⟩ : ∃ z, pk s n m = z := ⟨_, rfl⟩
              have hsz4 : sz ≤ 4 := by rw [← hsz]; unfold pk; split <;> omega
              rw [hsz] at hrg
              have hidx := run_index_cells (P := Tryd.prog) #[.int .i64 (n : Int), .int .i64 (m : Int)] .i64 s (.int .i64 (sz : Int)) Tryd.underlying60 Tryd.underlying3 rfl (by kernel_rfl) hs2 (by rw [two_at hs2, hsz])
              obtain ⟨pv, hpv⟩ : ∃ q, pk s x y = q := ⟨_, rfl⟩
              have hpv16 : pv < 16 := by rw [← hpv]; unfold pk; split <;> assumption
              rw [hpv] at hfr hno
              have hpvH := Lib.hid hpv
              have hszH := Lib.hid hsz
              have hfrH := Lib.hid hfr
              have hgdH := Lib.hid hgd
              have hnoH := Lib.hid hno
              have hTrH := Lib.hid hTr2
              clear hz hat hs hsz hpv hfr hgd hno hTr2 hTr
              go_wp2_with (fail)
              go_loopw [34, 234] (fun f v wr => ∃ k : Nat, k ≤ rg ∧ v = .int .i64 k ∧ f = .int .i64 (-1) ∧ Blk wr gX 57 #[.int .u32 (x : Int), .int .u32 (y : Int)] ∧ Pst w7 wu wr n m a b C gG H) (fun _ v _ => sz - (intOf v).toNat)
              case atStart => exact ⟨0, by omega, rfl, rfl, hX, hP⟩
              case round =>
                clear hX hP hidx hcell
                obtain ⟨k, hk, rfl, rfl, hX, hP⟩ := hrel
                obtain ⟨wc, rfl⟩ : ∃ x, x = wr := ⟨wr, rfl⟩
                have hlti2 : (k : Int) < sz := by omega
                have hmv := mv_lt (s := s) (k := k) hxy.out.1 hxy.out.2 hs2 (by rw [hszH.out]; omega)
                have hxo := xor_go pv k (by omega) (by omega)
                obtain ⟨xo, hxe⟩ : ∃ q, pv ^^^ 2 ^ k = q := ⟨_, rfl⟩
                rw [hxe] at hxo
                have hxo2 : bits .xor .u32 (pv : Int) (IntKind.u32.wrap ((2 : Int) ^ k)) = (xo : Int) := hxo
                have hxeH := Lib.hid hxe
                obtain ⟨u1, hu1⟩ : ∃ q, mvX s k x = q := ⟨_, rfl⟩
                obtain ⟨u2, hu2⟩ : ∃ q, mvY s k y = q := ⟨_, rfl⟩
                have hu1H := Lib.hid hu1
                have hu2H := Lib.hid hu2
                have hu16 : u1 < 16 := by have := hmv.1; have := hN16n.out; omega
                have hv16 : u2 < 16 := by have := hmv.2; have := hM16.out; omega
                clear hxe hu1 hu2 hmv
                go_wp2_with (first
                  | (with_reducible show wpList _ _ _ (⟨_, .load 57 (.tmp 30), _, _, _, _⟩ :: _) _ _
                     refine wpList_load_blk rfl 57 _ rfl gX rfl 57 #[.int .u32 (x : Int), .int .u32 (y : Int)] _ hX Tryd.underlying57 rfl info_both ?_)
                  | (with_reducible show wpList _ _ _ (⟨_, .alloc 57, _, _, _, _⟩ :: _) _ _
                     refine wpList_alloc_blk rfl 57 rfl _ zero_both ?_
                     intro w15 gY hY15 hgr15 hge15
                     have hP15 := hP.none_ hgr15
                     have hX15 := hX.none_ hgr15)
                  | (with_reducible show wpList _ _ _ (⟨_, .store 57 _ _, _, _, _, _⟩ :: _) _ _
                     refine wpList_store_blk rfl 57 _ _ rfl gY #[.int .u32 (x : Int), .int .u32 (y : Int)] rfl rfl 57 _ hY15 info_both rfl (by simp [Value.oneCell']) ?_
                     intro w16 hY16 hgr16
                     have hgYb := Nat.le_trans hP.sz hge15
                     have hXY : gX ≠ gY := by have := hX.lt; omega
                     have hP16 := hP15.var hY15 (by decide) hgYb hgr16
                     have hX16 := hX15.some_ hgr16 hXY))
                have hcY : w16.cell? ⟨gY, s, none⟩ = some (.int .u32 (pv : Int)) := by rw [hY16.cell, pair_at hs2, hpvH.out]
                have hfY := hY16.frozen s
                go_frame
                go_still_tail 7, (by kernel_rfl)
                change wpList _ _ _ _ _ w16.drew
                have hY17 := hY16.drew
                have hg17 := grown_drew (World.grownBy.refl w16 none)
                have hP17 := hP16.none_ hg17
                have hX17 := hX16.none_ hg17
                clear hY16 hg17 hX16 hP16 hcY hfY hX15 hP15 hX hP hY15 hgr15 hgr16 hxo
                generalize w16.drew = w17 at *
                have hcY : w17.cell? ⟨gY, s, none⟩ = some (.int .u32 (pv : Int)) := by rw [hY17.cell, pair_at hs2, hpvH.out]
                have hfY := hY17.frozen s
                have hY18 := hY17.set_ s (.int .u32 ((pv ^^^ 2 ^ k : Nat) : Int))
                rw [← hpvH.out, pair_set hs2, hpvH.out, hxeH.out, hu1H.out, hu2H.out] at hY18
                have hg18 := grown_set w17 ⟨gY, s, none⟩ (.int .u32 (xo : Int))
                have hX18 := hX17.far (p := ⟨gY, s, none⟩) hXY (.int .u32 (xo : Int))
                have hP18 := hP17.var hY17 (by decide) hgYb hg18
                go_wp2_with (fail)
                clear hY17 hX17 hP17 hcY hfY hg18
                generalize w17.setCell ⟨gY, s, none⟩ (.int .u32 (xo : Int)) = w18 at *
                have hcX : w18.cell? ⟨gX, s, none⟩ = some (.int .u32 (pv : Int)) := by rw [hX18.cell, pair_at hs2, hpvH.out]
                have hcY0 : w18.cell? ⟨gY, 0, none⟩ = some (.int .u32 (u1 : Int)) := hY18.cell 0
                have hcY1 : w18.cell? ⟨gY, 1, none⟩ = some (.int .u32 (u2 : Int)) := hY18.cell 1
                obtain ⟨hcG, _, hMu⟩ := hP18.gds.ent (i + 1) (Nat.zero_le _) (by omega)
                obtain ⟨b1, hb1, hlkN⟩ := hMu.lookN hu16 hv16
                simp only [pairU] at hlkN
                have hlk0 := hlkN 0
                change (Instr.lookup 58 (.map (some (H (i + 1)))) (.agg #[.int .u32 (u1 : Int), .int .u32 (u2 : Int)]) false).run Tryd.prog w18 = .ok (.bool b1) w18 at hlk0
                obtain ⟨gU, hgU⟩ : ∃ q, H (i + 1) = q := ⟨_, rfl⟩
                rw [hgU] at hcG hlkN hlk0
                obtain ⟨u3, hu3⟩ : ∃ q, i + 1 = q := ⟨_, rfl⟩
                have hu3i : (i : Int) + 1 = u3 := by omega
                have hu3N : (u3 : Int) < N1 := by omega
                rw [hu3] at hcG
                have hb1H := Lib.hid hb1
                have cf := Lib.hid (fun q => free_q pv k (by omega) (by omega) (w18.drewN q))
                obtain ⟨fb, hfb⟩ : ∃ q, freeB pv k = q := ⟨_, rfl⟩
                rw [hfb] at cf
                have hfbH := Lib.hid hfb
                have hXH := Lib.hid hX18
                have hPH := Lib.hid hP18
                have hu3H := Lib.hid hu3
                clear hfb hb1 hMu hgU hX18 hY18 hP18 hu3
                cases fb with
                | false =>
                  have hkr : k < rg := by
                    rcases Nat.lt_or_ge k rg with h | h
                    · exact h
                    · obtain rfl : k = rg := by omega
                      have h2 := hfrH.out
                      rw [hfbH.out] at h2
                      cases h2
                  clear hlkN hlk0
                  go_quiet (first
                    | (go_at_call 42; (with_reducible exact Calls.quiet_of (cf.out _))))
                  have hgq : w18.grownBy (w18.drewN nq) none := ⟨rfl, rfl, rfl, Nat.le_refl _, fun _ _ _ => rfl⟩
                  go_wp2_with (fail)
                  go_roundw
                  case rel => exact ⟨k + 1, by omega, by go_num, rfl, hXH.out.none_ hgq, hPH.out.none_ hgq⟩
                  case measure => simp only [intOf]; omega
                | true =>
                  cases b1 with
                  | false =>
                    have hkr : k < rg := by
                      rcases Nat.lt_or_ge k rg with h | h
                      · exact h
                      · obtain rfl : k = rg := by omega
                        have h2 := hgdH.out
                        rw [hu1H.out, hu2H.out] at h2
                        have h3 := hb1H.out.2 h2
                        cases h3
                    go_quiet (first
                      | (go_at_call 42; (with_reducible exact Calls.quiet_of (cf.out _))))
                    have hgq : w18.grownBy (w18.drewN nq) none := ⟨rfl, rfl, rfl, Nat.le_refl _, fun _ _ _ => rfl⟩
                    go_wp2_with (fail)
                    go_roundw
                    case rel => exact ⟨k + 1, by omega, by go_num, rfl, hXH.out.none_ hgq, hPH.out.none_ hgq⟩
                    case measure => simp only [intOf]; omega
                  | true =>
                    obtain rfl : rg = k := by
                      rcases Nat.lt_or_ge k rg with h | h
                      · exact absurd ⟨hfbH.out, by rw [hu1H.out, hu2H.out]; exact hb1H.out.1 (by first | rfl | trivial)⟩ (hnoH.out k h)
                      · omega
                    go_quiet (first
                      | (go_at_call 42; (with_reducible exact Calls.quiet_of (cf.out _))))
                    have hgq : w18.grownBy (w18.drewN nq) none := ⟨rfl, rfl, rfl, Nat.le_refl _, fun _ _ _ => rfl⟩
                    have hX20 := hXH.out.none_ hgq
                    have hP20 := hPH.out.none_ hgq
                    clear hgq hXH hPH hlkN hlk0 hcX hcY0 hcY1 hcG cf
                    generalize w18.drewN nq = w20 at *
                    have hcX : w20.cell? ⟨gX, s, none⟩ = some (.int .u32 (pv : Int)) := by rw [hX20.cell, pair_at hs2, hpvH.out]
                    have hfX := hX20.frozen s
                    have hrg0 : ¬ (rg : Int) < 0 := by omega
                    go_wp2_with (fail)
                    go_still_tail 7, (by kernel_rfl)
                    change wpList _ _ _ _ _ w20.drew
                    have hX21 := hX20.drew
                    have hg21 := grown_drew (World.grownBy.refl w20 none)
                    have hP21 := hP20.none_ hg21
                    clear hg21 hX20 hP20 hcX hfX
                    generalize w20.drew = w21 at *
                    have hcX : w21.cell? ⟨gX, s, none⟩ = some (.int .u32 (pv : Int)) := by rw [hX21.cell, pair_at hs2, hpvH.out]
                    have hfX := hX21.frozen s
                    have hX22 := hX21.set_ s (.int .u32 ((pv ^^^ 2 ^ rg : Nat) : Int))
                    rw [← hpvH.out, pair_set hs2, hpvH.out, hxeH.out, hu1H.out, hu2H.out] at hX22
                    have hP22 := hP21.var hX21 (by decide) hgXb (grown_set w21 ⟨gX, s, none⟩ (.int .u32 (xo : Int)))
                    go_wp2_with (fail)
                    go_roundw
                    case rel => exact ⟨i + 1, u1, u2, A', by omega, by go_num, by rw [← hu1H.out, ← hu2H.out]; exact hTrH, hu16, hv16, hX22, hP22⟩
                    case measure => simp only [intOf]; omega
            · have hlti : ¬ (i : Int) < C := by omega
              obtain rfl : C = i := by omega
              have hgo := hTr.out.go
              rw [Nat.sub_self] at hgo
              obtain ⟨rfl, rfl⟩ := hgo
              have hbF := hbe7.trans (hP.bc.mono hbe7.size)
              rw [Int.natCast_zero] at hX
              have hzq := eq_zero
              go_wp2_with (first
                | (with_reducible show wpList _ _ _ (⟨_, .load 57 (.tmp 30), _, _, _, _⟩ :: _) _ _
                   refine wpList_load_blk rfl 57 _ rfl gX rfl 57 #[.int .u32 0, .int .u32 0] _ hX Tryd.underlying57 rfl info_both ?_)
                | (go_at_call 15; (with_reducible refine (works_any _ (hTH.out.later hbF)).mono ?_); rintro e w30 ⟨rfl, hb30⟩
                   have hb31 := hbF.trans (hb30.mono hbF.size)))
              go_ret
              exact ⟨rfl, hb31⟩
end Tu
end Go.Proofs.YtjhcemhnnkcjaaaDoor
