/- The law ClaspOpened, walked: it returns true. -/
import Derived.Test.YtjhcemhnnkcjaaaDoorLawB
namespace Go.Proofs.YtjhcemhnnkcjaaaDoor
open Go.RowKit
theorem opened_num : ∀ n, n < 17 → numS (bitS n (2 ^ n - 1)) = 2 ^ (n + 1) / 3 := by decide
theorem opened_zero : ∀ n, n < 17 → numS (bitS n 0) = 0 := by decide
theorem opened_gray : ∀ n, n < 17 → 1 ≤ n → grayS n (2 ^ n - 1) = bitS n (2 ^ (n - 1)) := by decide
theorem opened_lead {n a p : Nat} (h1 : 1 ≤ n) (h2 : n ≤ 16) (ha : a < 2 ^ n) (hp : numS (bitS n a) = p) (hq : numS (bitS n 0) = 0) : leadsE (bitS n a) (bitS n 0) (wayN p 0) = 0 := by
  have h0 : 0 < 2 ^ n := Nat.pow_pos (by omega)
  have key : ∀ j, j ≤ distS p 0 → ∃ s, s < 2 ^ n ∧ numS (bitS n s) = posS p 0 j ∧ leadF (bitS n a) ((wayN p 0).take j) = (bitS n s, 0) := by
    intro j
    induction j with
    | zero => exact fun _ => ⟨a, ha, by rw [posS_zero, hp], rfl⟩
    | succ j ih =>
      intro hj
      obtain ⟨s, hs, hn, hl⟩ := ih (by omega)
      obtain ⟨g1, g2, g3, g4⟩ := way_step hs h0 (show j < distS p 0 by omega) hn
      have hl2 := leadF_way hl g1 g2
      rw [← wayN_take (show j < distS p 0 by omega)] at hl2
      exact ⟨_, g4, g3, hl2⟩
  obtain ⟨s, hs, hn, hl⟩ := key _ (Nat.le_refl _)
  rw [posS_end, ← hq] at hn
  obtain rfl := (num_bits hs h0).1 hn
  rw [List.take_of_length_le (by rw [wayN_length]; exact Nat.le_refl _)] at hl
  exact (lead_end (b := 0) h1 h2 hl h0 h0).trans ((if_neg (by simp)).trans (if_pos rfl))
set_option maxRecDepth 100000 in
set_option maxHeartbeats 16000000 in
theorem opened_law (x : Nat) (hx : x < 256) (w : World) (hT : Tab w) :
    Calls Tryd.prog 8 #[.int .u8 x] w fun e w' => e = .returned (.bool true) ∧ Below w.heap.size w w' := by
  have hr : (x : Int).tmod 16 = ((x % 16 : Nat) : Int) := by rw [Int.tmod_eq_emod_of_nonneg (by omega)]; omega
  obtain ⟨d, hd⟩ : ∃ d, d = x % 16 := ⟨_, rfl⟩
  rw [← hd] at hr
  have hd6 : d < 16 := by omega
  clear hd
  obtain ⟨n, hn⟩ : ∃ n, n = 1 + d := ⟨_, rfl⟩
  have hn1 : (1 : Int) + d = (n : Int) := by omega
  have hn2 : 1 ≤ n := by omega
  have hn3 : n ≤ 16 := by omega
  have hnd : (n : Int) - 1 = (d : Int) := by omega
  have hnd2 : n - 1 = d := by omega
  clear hn
  obtain ⟨P, a, hP, hQ, hQ1, ha32, _⟩ := mask_let (k := n) (by omega)
  obtain ⟨R, R1, hR, _, hR1, _, _⟩ := mask_let (k := d) (by omega)
  have hp : 0 < 2 ^ n := Nat.pow_pos (by omega)
  have h16 : 2 ^ n ≤ 2 ^ 16 := Nat.pow_le_pow_right (by omega) hn3
  have h8 : (2 : Nat) ^ 16 = 65536 := rfl
  have hpd : 2 ^ (n + 1) = 2 * 2 ^ n := by rw [Nat.pow_succ]; omega
  have hdd : 2 ^ n = 2 * 2 ^ d := by rw [show n = d + 1 by omega, Nat.pow_succ]; omega
  have hR2 : R = 2 ^ d := by
    have e1 : (2 : Int) ^ d = ((2 ^ d : Nat) : Int) := by simp
    rw [e1] at hR
    omega
  have hPa : (P : Int) - 1 = (a : Int) := by
    have e1 : (2 : Int) ^ n = ((2 ^ n : Nat) : Int) := by simp
    rw [e1] at hP
    omega
  have hR32 : R < 4294967296 := by omega
  have ha16 : a < 65536 := by omega
  have hLA := Lib.hid (show a < 2 ^ n by omega)
  have hLB := Lib.hid hp
  have hn31 : n ≤ 31 := by omega
  obtain ⟨p, hpe⟩ : ∃ p, numS (bitS n a) = p := ⟨_, rfl⟩
  have hqe := opened_zero n (by omega)
  have hpn : p = 2 ^ (n + 1) / 3 := by rw [← hpe, hQ1]; exact opened_num n (by omega)
  have hGR := Lib.hid (show grayS n a = bitS n R by rw [hQ1, hR2, ← hnd2]; exact opened_gray n (by omega) hn2)
  have hpl := num_bits_lt n a
  rw [hpe] at hpl
  have hd0 : distS p 0 = p := by unfold distS; omega
  have hp16 : p < 65536 := by omega
  obtain ⟨a1, ha1⟩ : ∃ a1, a1 = a + 1 := ⟨_, rfl⟩
  obtain ⟨b1, hb1⟩ : ∃ b1, b1 = 2 * (a + 1) := ⟨_, rfl⟩
  have hV1 : Value.int .i64 (wrap64 (2 ^ n)) = Value.int .i64 (a1 : Int) := by rw [wrap64_pow (by omega)]; congr 1; omega
  have hV2 : Value.int .i64 (wrap64 (2 ^ (n + 1))) = Value.int .i64 (b1 : Int) := by rw [wrap64_pow (by omega)]; congr 1; omega
  have hA1 : (a1 : Int) - 1 = (a : Int) := by omega
  have hA2 : a1 < 65537 := by omega
  have hB1 : (b1 : Int).tdiv 3 = (p : Int) := by rw [Int.tdiv_eq_ediv_of_nonneg (by omega)]; omega
  have hB2 : b1 < 200000 := by omega
  clear ha1 hb1
  have hPL := Lib.hid hpl
  have hQL := Lib.hid hp
  have hPE := Lib.hid hpe
  have hQE := Lib.hid hqe
  have hAN := Lib.hid (show a < 2 ^ n by omega)
  have hDP := Lib.hid hd0
  have hEE := Lib.hid (both_bits (s := a) (t := 0) (r := n) hn2 (by omega))
  have hCO := Lib.hid (chk_bits (r := n) (s := 0) hn2 (by omega))
  have hbig : ∀ s : Nat, (bitS n s).length ≤ 100000 := fun s => by rw [bitS_length]; omega
  have hBG := Lib.hid hbig
  have hdist : distS p 0 < 65536 := by omega
  have hn16 : n ≤ 16 := hn3
  clear hp h16 h8 hpd hdd hR1 hR2 hQ1 hpl hqe hpe hbig hpn
  have hS := Wk.start hT
  have hP := hP
  by_cases hdm : 1000 < p
  · have hdm2 : (1000 : Int) < p := by omega
    go_enter Tryd.func8, Tryd.ntmps8
    have _k1 := hT
    have _k2 := hT
    have _k3 := hT
    have _k4 := hT
    have _k5 := hT
    have _k6 := hT
    have _k7 := hT
    have _k8 := hT
    have _k9 := hT
    go_wp2_with (first
      | (go_at_call 40; clear _k1; refine (given_any n a hn31 ha32 _ _ rfl rfl _).mono ?_; rintro e w1 ⟨Ax, cx, rfl, hr, hb⟩; replace hS := hS.also hb hr; clear hb hr)
      | (go_at_call 40; clear _k2; refine (given_any n 0 hn31 (by decide) _ 0 rfl rfl _).mono ?_; rintro e w1 ⟨Ay, cy, rfl, hr, hb⟩; replace hS := hS.also hb hr; clear hb hr)
      | (go_at_call 23; clear _k3; refine (o_distance hS (.tail _ (.head _)) (max_of (hS.get (.tail _ (.head _))) (hBG.out _)) (.head _) (max_of (hS.get (.head _)) (hBG.out _)) hEE.out hPE.out hQE.out).mono ?_; rintro e w1 ⟨rfl, hb⟩; replace hS := hS.step hb; clear hb)
      | (go_at_call 16; clear _k4; refine (o_number hS (.head _) (max_of (hS.get (.head _)) (hBG.out _)) hCO.out hQE.out).mono ?_; rintro e w1 ⟨rfl, hb⟩; replace hS := hS.step hb; clear hb)
      | (go_at_call 18; clear _k5; refine (o_position hn2 hn16 hAN.out _).mono ?_; rintro e w1 ⟨Ag, cg, rfl, hr, hb⟩; replace hS := hS.also hb hr; clear hb hr)
      | (go_at_call 40; clear _k6; refine (given_any n R hn31 hR32 _ _ rfl rfl _).mono ?_; rintro e w1 ⟨Ar, cr, rfl, hr, hb⟩; replace hS := hS.also hb hr; clear hb hr)
      | (go_at_call 22; clear _k7; refine (o_same hS (.tail _ (.head _)) (max_of (hS.get (.tail _ (.head _))) (by rw [grayS_length]; omega)) (.head _) (max_of (hS.get (.head _)) (hBG.out _)) hGR.out).mono ?_; rintro e w1 ⟨rfl, hb⟩; replace hS := hS.step hb; clear hb)
      | (go_at_call 27; clear _k8; refine (o_way_many hS (.tail _ (.tail _ (.tail _ (.head _)))) (max_of (hS.get (.tail _ (.tail _ (.tail _ (.head _))))) (hBG.out _)) (.tail _ (.tail _ (.head _))) (max_of (hS.get (.tail _ (.tail _ (.head _)))) (hBG.out _)) hEE.out hPE.out hQE.out (by rw [hDP.out]; exact hdm)).mono ?_; rintro e w1 ⟨Az, cz, rfl, hb⟩; replace hS := hS.step hb; clear hb)
      | (go_at_call 15; clear _k9; refine (o_works hS).mono ?_; rintro e w1 ⟨rfl, hb⟩; replace hS := hS.step hb; clear hb))
    go_ret
    exact ⟨rfl, hS.2.1⟩
  · replace hdm : p ≤ 1000 := by omega
    have hdm2 : ¬ (1000 : Int) < p := by omega
    have hpb : p ≤ 100000 := by omega
    have hLD := Lib.hid (opened_lead hn2 hn3 hAN.out hPE.out hQE.out)
    go_enter Tryd.func8, Tryd.ntmps8
    have _k1 := hT
    have _k2 := hT
    have _k3 := hT
    have _k4 := hT
    have _k5 := hT
    have _k6 := hT
    have _k7 := hT
    have _k8 := hT
    have _k9 := hT
    go_wp2_with (first
      | (go_at_call 40; clear _k1; refine (given_any n a hn31 ha32 _ _ rfl rfl _).mono ?_; rintro e w1 ⟨Ax, cx, rfl, hr, hb⟩; replace hS := hS.also hb hr; clear hb hr)
      | (go_at_call 40; clear _k2; refine (given_any n 0 hn31 (by decide) _ 0 rfl rfl _).mono ?_; rintro e w1 ⟨Ay, cy, rfl, hr, hb⟩; replace hS := hS.also hb hr; clear hb hr)
      | (go_at_call 23; clear _k3; refine (o_distance hS (.tail _ (.head _)) (max_of (hS.get (.tail _ (.head _))) (hBG.out _)) (.head _) (max_of (hS.get (.head _)) (hBG.out _)) hEE.out hPE.out hQE.out).mono ?_; rintro e w1 ⟨rfl, hb⟩; replace hS := hS.step hb; clear hb)
      | (go_at_call 16; clear _k4; refine (o_number hS (.head _) (max_of (hS.get (.head _)) (hBG.out _)) hCO.out hQE.out).mono ?_; rintro e w1 ⟨rfl, hb⟩; replace hS := hS.step hb; clear hb)
      | (go_at_call 18; clear _k5; refine (o_position hn2 hn16 hAN.out _).mono ?_; rintro e w1 ⟨Ag, cg, rfl, hr, hb⟩; replace hS := hS.also hb hr; clear hb hr)
      | (go_at_call 40; clear _k6; refine (given_any n R hn31 hR32 _ _ rfl rfl _).mono ?_; rintro e w1 ⟨Ar, cr, rfl, hr, hb⟩; replace hS := hS.also hb hr; clear hb hr)
      | (go_at_call 22; clear _k7; refine (o_same hS (.tail _ (.head _)) (max_of (hS.get (.tail _ (.head _))) (by rw [grayS_length]; omega)) (.head _) (max_of (hS.get (.head _)) (hBG.out _)) hGR.out).mono ?_; rintro e w1 ⟨rfl, hb⟩; replace hS := hS.step hb; clear hb)
      | (go_at_call 27; clear _k8; refine (o_way hS (.tail _ (.tail _ (.tail _ (.head _)))) (max_of (hS.get (.tail _ (.tail _ (.tail _ (.head _))))) (hBG.out _)) (.tail _ (.tail _ (.head _))) (max_of (hS.get (.tail _ (.tail _ (.head _)))) (hBG.out _)) hEE.out hPE.out hQE.out hDP.out hdm).mono ?_; rintro e w1 ⟨Az, cz, rfl, hr, hb⟩; replace hS := hS.also hb hr; clear hb hr)
      | (go_at_call 29; clear _k9; refine (o_leads hS (.tail _ (.tail _ (.tail _ (.tail _ (.head _))))) (max_of (hS.get (.tail _ (.tail _ (.tail _ (.tail _ (.head _)))))) (hBG.out _)) (.tail _ (.tail _ (.tail _ (.head _)))) (max_of (hS.get (.tail _ (.tail _ (.tail _ (.head _))))) (hBG.out _)) (.head _) (max_of (hS.get (.head _)) (by rw [wayN_length, hDP.out]; exact hpb)) hLD.out).mono ?_; rintro e w1 ⟨rfl, hb⟩; replace hS := hS.step hb; clear hb)
      | (with_reducible show wpList _ _ _ (⟨some 122, .makeSlice _ _ _, _, _, _, _⟩ :: _) _ _
         refine wpList_make_ints rfl _ _ rfl n rfl rfl (by omega) ?_
         intro wb gt hB hg hge
         have hb0 := below_none (Below.refl w1.heap.size w1) hg (Nat.le_refl _)))
    clear hP hQ hPa hV1 hV2 hR hg
    rw [← cntW_zero n p 0] at hB
    go_loopw [13, 125] (fun u i wr => ∃ j s : Nat, j ≤ p ∧ u = .int .u32 s ∧ i = .int .i64 j ∧ s < 65536 ∧ Hid (s < 2 ^ n) ∧ Hid (numS (bitS n s) = posS p 0 j) ∧
        Blk wr gt 3 (intArr (cntW n p 0 j)) ∧ Below w1.heap.size w1 wr) (fun _ i _ => p - (intOf i).toNat)
    case atStart => exact ⟨0, a, by omega, rfl, rfl, ha16, hLA, Lib.hid (by rw [posS_zero, hPE.out]), hB, hb0⟩
    case round =>
      clear hB hb0
      obtain ⟨j, s, hj, rfl, rfl, hs16, hN, hPJ, hB, hbe⟩ := hrel
      by_cases hlt : j < p
      · have hltd : j < distS p 0 := by rw [hDP.out]; exact hlt
        obtain ⟨hr1, hf, hr3, hr4⟩ := way_step hN.out hQL.out hltd hPJ.out
        have hcn := cntW_succ hltd hr1
        have hw0 := wayN_at hltd
        have hpn := Lib.hid (show posS p 0 j ≠ 0 by
          have h1 := posS_dist (a := p) (b := 0) (j := j) (by omega)
          unfold distS at h1
          unfold distS at hltd
          omega)
        obtain ⟨r, hre⟩ : ∃ r, nextS (posS p 0 j) 0 = r := ⟨_, rfl⟩
        rw [hre] at hr1 hf hr3 hr4 hcn hw0
        have hRE := Lib.hid hre
        obtain ⟨v, hv1, hv2, hv3, hv4⟩ := hcn
        have hv5 : max p (posS p 0 j) ≤ 65536 := by
          have h1 := posS_lt (a := p) (b := 0) (j := j) (by omega) (by omega) (by omega)
          omega
        replace hv3 : v ≤ 65536 := by omega
        clear hv5 hre
        obtain ⟨ad, rfl, hadb, hcells⟩ := (Reads.below (hS.get (.head _)) hbe).2 (by omega)
        have hcell : wr.cell? (ad.add j) = some (.int .i64 (r : Int)) := hcells j _ (by simp [ints, hw0])
        have hs32 : s < 4294967296 := by omega
        have hrn : (r : Int) < n := by omega
        have hr0 : (0 : Int) ≤ r := by omega
        have hrn2 : ¬ (n : Int) ≤ r := by omega
        have hr02 : ¬ (r : Int) < 0 := by omega
        have hs2 : s ^^^ 2 ^ r < 65536 := Nat.xor_lt_two_pow (n := 16) (by omega) (Nat.pow_lt_pow_right (by omega) (by omega))
        have hxg := xor_go s r hs32 (by omega)
        have hN2 := Lib.hid hr4
        have hP2 := Lib.hid hr3
        have hset := Lib.hid hv4
        have hval := Lib.hid hv1
        have hED := Lib.hid (both_bits (s := s) (t := 0) (r := n) hn2 (by omega))
        replace hf := Lib.hid hf
        replace hS := hS.step hbe
        clear hr3 hr4 hv4 hv1 hw0 hcells hltd
        have _k1 := hT
        have _k2 := hT
        have _k3 := hT
        have _k4 := hT
        have _k5 := hT
        go_wp2_with (first
          | (go_at_call 42
             refine (free_any s r (by omega) hs32 _ _ rfl rfl _).mono ?_
             rintro e w2 ⟨rfl, hb⟩
             rw [hf.out]
             replace hS := hS.step hb
             replace hB := hB.callee hb
             replace hbe := hbe.trans (hb.mono hbe.size)
             clear hb)
          | (go_at_call 33; clear _k1; refine (o_at hS (.tail _ (.tail _ (.tail _ (.tail _ (.head _))))) (max_of (hS.get (.tail _ (.tail _ (.tail _ (.tail _ (.head _)))))) (hBG.out _)) (.tail _ (.tail _ (.tail _ (.head _)))) (max_of (hS.get (.tail _ (.tail _ (.tail _ (.head _))))) (hBG.out _)) hEE.out hPE.out hQE.out (k := j) rfl (by rw [hDP.out]; exact hj)).mono ?_; rintro e w1 ⟨Au, cu, rfl, hr, hb⟩; replace hS := hS.also hb hr; replace hB := hB.callee hb; replace hbe := hbe.trans (hb.mono hbe.size); clear hb hr)
          | (go_at_call 40; clear _k2; refine (o_given n s hn31 hs32 _).mono ?_; rintro e w1 ⟨Ao, co, rfl, hr, hb⟩; replace hS := hS.also hb hr; replace hB := hB.callee hb; replace hbe := hbe.trans (hb.mono hbe.size); clear hb hr)
          | (go_at_call 25; clear _k3; refine (o_next hS (.head _) (max_of (hS.get (.head _)) (hBG.out _)) (.tail _ (.tail _ (.tail _ (.tail _ (.tail _ (.head _)))))) (max_of (hS.get (.tail _ (.tail _ (.tail _ (.tail _ (.tail _ (.head _))))))) (hBG.out _)) hED.out hPJ.out hQE.out hpn.out).mono ?_; rintro e w1 ⟨rfl, hb⟩; replace hS := hS.step hb; replace hB := hB.callee hb; replace hbe := hbe.trans (hb.mono hbe.size); clear hb; rw [hRE.out])
          | (go_at_call 40; clear _k4; refine (o_given n s hn31 hs32 _).mono ?_; rintro e w1 ⟨Am, cm, rfl, hr, hb⟩; replace hS := hS.also hb hr; replace hB := hB.callee hb; replace hbe := hbe.trans (hb.mono hbe.size); clear hb hr)
          | (go_at_call 22; clear _k5; refine (o_same hS (.tail _ (.tail _ (.head _))) (max_of (hS.get (.tail _ (.tail _ (.head _)))) (by rw [grayS_length]; omega)) (.head _) (max_of (hS.get (.head _)) (hBG.out _)) (gray_bits hPJ.out)).mono ?_; rintro e w1 ⟨rfl, hb⟩; replace hS := hS.step hb; replace hB := hB.callee hb; replace hbe := hbe.trans (hb.mono hbe.size); clear hb
             have hc1 : w1.cell? ⟨gt, r, none⟩ = some (.int .i64 v) := by rw [hB.cell, intArr_at, hval.out]; rfl
             have hfz := hB.frozen r
             replace hB := hB.set_ r (.int .i64 (v + 1))
             rw [intArr_set, hset.out] at hB
             replace hbe := hbe.setCell hge (.int .i64 (v + 1)) (p := ⟨gt, r, none⟩)))
        go_roundw
        case rel => exact ⟨j + 1, s ^^^ 2 ^ r, by omega, rfl, by go_num, hs2, hN2, hP2, hB, hbe⟩
        case measure => simp [intOf]; omega
      · obtain rfl : j = p := by omega
        obtain rfl : s = 0 := by
          have h1 := hPJ.out
          have h2 := posS_end j 0
          rw [hDP.out] at h2
          rw [h2, ← hQE.out] at h1
          exact (num_bits hN.out hLB.out).1 h1
        have hE0 := cntW_end n j 0
        rw [hDP.out] at hE0
        rw [hE0] at hB
        clear hE0
        replace hS := (hS.step hbe).add (RInts.of_blk hB (timesN_length _ _ _))
        have _k1 := hT
        have _k2 := hT
        have _k3 := hT
        go_wp2_with (first
          | (go_at_call 31; clear _k1; refine (o_times hS (.tail _ (.tail _ (.tail _ (.tail _ (.tail _ (.head _)))))) (max_of (hS.get (.tail _ (.tail _ (.tail _ (.tail _ (.tail _ (.head _))))))) (hBG.out _)) (.tail _ (.tail _ (.tail _ (.tail _ (.head _))))) (max_of (hS.get (.tail _ (.tail _ (.tail _ (.tail _ (.head _)))))) (hBG.out _)) hEE.out hPE.out hQE.out).mono ?_; rintro e w1 ⟨Au, cu, rfl, hr, hb⟩; replace hS := hS.also hb hr; clear hb hr)
          | (go_at_call 22; clear _k2; refine (o_same hS (.head _) (max_of (hS.get (.head _)) (by rw [timesN_length]; omega)) (.tail _ (.head _)) (max_of (hS.get (.tail _ (.head _))) (by rw [timesN_length]; omega)) rfl).mono ?_; rintro e w1 ⟨rfl, hb⟩; replace hS := hS.step hb; clear hb)
          | (go_at_call 15; clear _k3; refine (o_works hS).mono ?_; rintro e w1 ⟨rfl, hb⟩; replace hS := hS.step hb; clear hb))
        go_ret
        exact ⟨rfl, hS.2.1⟩
end Go.Proofs.YtjhcemhnnkcjaaaDoor
