/- The law ClaspWalked, walked: it returns true. -/
import Derived.Test.YtjhcemhnnkcjaaaDoorLawB
namespace Go.Proofs.YtjhcemhnnkcjaaaDoor
open Go.RowKit
set_option maxRecDepth 100000 in
set_option maxHeartbeats 16000000 in
theorem walked_law (x one two : Nat) (hx : x < 256) (h1 : one < 4294967296) (h2 : two < 4294967296) (w : World) (hT : Tab w) :
    Calls Tryd.prog 9 #[.int .u8 x, .int .u32 one, .int .u32 two] w fun e w' => e = .returned (.bool true) ∧ Below w.heap.size w w' := by
  have hr : (x : Int).tmod 10 = ((x % 10 : Nat) : Int) := by rw [Int.tmod_eq_emod_of_nonneg (by omega)]; omega
  obtain ⟨d, hd⟩ : ∃ d, d = x % 10 := ⟨_, rfl⟩
  rw [← hd] at hr
  have hd6 : d < 10 := by omega
  clear hd
  obtain ⟨n, hn⟩ : ∃ n, n = 1 + d := ⟨_, rfl⟩
  have hn1 : (1 : Int) + d = (n : Int) := by omega
  have hn2 : 1 ≤ n := by omega
  have hn3 : n ≤ 10 := by omega
  clear hn
  obtain ⟨P, Q, hP, hQ, hQ1, hQ2, hM⟩ := mask_let (k := n) (by omega)
  clear hQ1 hQ2
  have hma := hM one h1
  have hmb := hM two h2
  clear hM
  have hp : 0 < 2 ^ n := Nat.pow_pos (by omega)
  have h10 : 2 ^ n ≤ 2 ^ 10 := Nat.pow_le_pow_right (by omega) hn3
  have hla : one % 2 ^ n < 2 ^ n := Nat.mod_lt _ hp
  have hlb : two % 2 ^ n < 2 ^ n := Nat.mod_lt _ hp
  obtain ⟨a, hae⟩ : ∃ a, a = one % 2 ^ n := ⟨_, rfl⟩
  obtain ⟨b, hbe⟩ : ∃ b, b = two % 2 ^ n := ⟨_, rfl⟩
  rw [← hae] at hma hla
  rw [← hbe] at hmb hlb
  have ha10 : a < 1024 := by omega
  have hb10 : b < 1024 := by omega
  have ha32 : a < 4294967296 := by omega
  have hb32 : b < 4294967296 := by omega
  have hLA := Lib.hid hla
  have hLB := Lib.hid hlb
  have hn31 : n ≤ 31 := by omega
  obtain ⟨p, hpe⟩ : ∃ p, numS (bitS n a) = p := ⟨_, rfl⟩
  obtain ⟨q, hqe⟩ : ∃ q, numS (bitS n b) = q := ⟨_, rfl⟩
  have hpl := num_bits_lt n a
  have hql := num_bits_lt n b
  rw [hpe] at hpl
  rw [hqe] at hql
  have hp10 : p < 1024 := by omega
  have hq10 : q < 1024 := by omega
  have hPL := Lib.hid hpl
  have hQL := Lib.hid hql
  have hPE := Lib.hid hpe
  have hQE := Lib.hid hqe
  have hEE := Lib.hid (both_bits (s := a) (t := b) (r := n) hn2 (by omega))
  have hEB := Lib.hid (both_bits (s := b) (t := a) (r := n) hn2 (by omega))
  have hbig : ∀ s : Nat, (bitS n s).length ≤ 100000 := fun s => by rw [bitS_length]; omega
  have hBG := Lib.hid hbig
  have hdist : distS p q < 1024 := by unfold distS; omega
  clear hp h10 hla hlb hae hbe hpl hql hpe hqe hbig
  have hS := Wk.start hT
  by_cases hdm : 1000 < distS p q
  · have hdm2 : (1000 : Int) < (distS p q : Nat) := by omega
    go_enter Tryd.func9, Tryd.ntmps9
    go_wp2_with (fail)
    go_quiet (fail)
    replace hS := hS.step (below_drewN (Below.refl w.heap.size w) nq)
    have _k1 := hT
    have _k2 := hT
    have _k3 := hT
    have _k4 := hT
    have _k5 := hT
    go_wp2_with (first
      | (go_at_call 40; clear _k1; refine (o_given n a hn31 ha32 _).mono ?_; rintro e w1 ⟨Ax, cx, rfl, hr, hb⟩; replace hS := hS.also hb hr; clear hb hr)
      | (go_at_call 40; clear _k2; refine (o_given n b hn31 hb32 _).mono ?_; rintro e w1 ⟨Ay, cy, rfl, hr, hb⟩; replace hS := hS.also hb hr; clear hb hr)
      | (go_at_call 23; clear _k3; refine (o_distance hS (.tail _ (.head _)) (max_of (hS.get (.tail _ (.head _))) (hBG.out _)) (.head _) (max_of (hS.get (.head _)) (hBG.out _)) hEE.out hPE.out hQE.out).mono ?_; rintro e w1 ⟨rfl, hb⟩; replace hS := hS.step hb; clear hb)
      | (go_at_call 27; clear _k4; refine (o_way_many hS (.tail _ (.head _)) (max_of (hS.get (.tail _ (.head _))) (hBG.out _)) (.head _) (max_of (hS.get (.head _)) (hBG.out _)) hEE.out hPE.out hQE.out hdm).mono ?_; rintro e w1 ⟨Az, cz, rfl, hb⟩; replace hS := hS.step hb; clear hb)
      | (go_at_call 15; clear _k5; refine (o_works hS).mono ?_; rintro e w1 ⟨rfl, hb⟩; replace hS := hS.step hb; clear hb))
    go_ret
    exact ⟨rfl, hS.2.1⟩
  · replace hdm : distS p q ≤ 1000 := by omega
    have hdm2 : ¬ (1000 : Int) < (distS p q : Nat) := by omega
    go_enter Tryd.func9, Tryd.ntmps9
    go_wp2_with (fail)
    go_quiet (fail)
    replace hS := hS.step (below_drewN (Below.refl w.heap.size w) nq)
    have _k1 := hT
    have _k2 := hT
    have _k3 := hT
    have _k4 := hT
    go_wp2_with (first
      | (go_at_call 40; clear _k1; refine (o_given n a hn31 ha32 _).mono ?_; rintro e w1 ⟨Ax, cx, rfl, hr, hb⟩; replace hS := hS.also hb hr; clear hb hr)
      | (go_at_call 40; clear _k2; refine (o_given n b hn31 hb32 _).mono ?_; rintro e w1 ⟨Ay, cy, rfl, hr, hb⟩; replace hS := hS.also hb hr; clear hb hr)
      | (go_at_call 23; clear _k3; refine (o_distance hS (.tail _ (.head _)) (max_of (hS.get (.tail _ (.head _))) (hBG.out _)) (.head _) (max_of (hS.get (.head _)) (hBG.out _)) hEE.out hPE.out hQE.out).mono ?_; rintro e w1 ⟨rfl, hb⟩; replace hS := hS.step hb; clear hb)
      | (go_at_call 27; clear _k4; refine (o_way hS (.tail _ (.head _)) (max_of (hS.get (.tail _ (.head _))) (hBG.out _)) (.head _) (max_of (hS.get (.head _)) (hBG.out _)) hEE.out hPE.out hQE.out rfl hdm).mono ?_; rintro e w1 ⟨Az, cz, rfl, hr, hb⟩; replace hS := hS.also hb hr; clear hb hr)
      | (with_reducible show wpList _ _ _ (⟨some 90, .makeSlice _ _ _, _, _, _, _⟩ :: _) _ _
         refine wpList_make_ints rfl _ _ rfl n rfl rfl (by omega) ?_
         intro wb gt hB hg hge
         have hb0 := below_none (Below.refl w1.heap.size w1) hg (Nat.le_refl _)))
    clear hma hmb hP hQ hg
    rw [← cntW_zero n p q] at hB
    go_loopw [16, 93] (fun u i wr => ∃ j s : Nat, j ≤ distS p q ∧ u = .int .u32 s ∧ i = .int .i64 j ∧ s < 1024 ∧ Hid (s < 2 ^ n) ∧ Hid (numS (bitS n s) = posS p q j) ∧
        Hid (leadF (bitS n a) ((wayN p q).take j) = (bitS n s, 0)) ∧ Blk wr gt 3 (intArr (cntW n p q j)) ∧ Below w1.heap.size w1 wr) (fun _ i _ => distS p q - (intOf i).toNat)
    case atStart => exact ⟨0, a, by omega, rfl, rfl, ha10, hLA, Lib.hid (by rw [posS_zero, hPE.out]), Lib.hid rfl, hB, hb0⟩
    case round =>
      clear hB hb0
      obtain ⟨j, s, hj, rfl, rfl, hs10, hN, hPJ, hLJ, hB, hbe⟩ := hrel
      by_cases hlt : j < distS p q
      · obtain ⟨hr1, hf, hr3, hr4⟩ := way_step hN.out hQL.out hlt hPJ.out
        have hcn := cntW_succ hlt hr1
        have hw0 := wayN_at hlt
        have hLn := leadF_way hLJ.out hr1 hf
        rw [← wayN_take hlt] at hLn
        have hpar : ∀ t, j = t + 1 → (nextS (posS p q j) q = 0 ↔ ¬ nextS (posS p q t) q = 0) := fun t ht => by subst ht; exact way_turns hlt
        have hw1 : ∀ t, j = t + 1 → (wayN p q)[t]? = some (nextS (posS p q t) q : Int) := fun t ht => wayN_at (by omega)
        obtain ⟨r, hre⟩ : ∃ r, nextS (posS p q j) q = r := ⟨_, rfl⟩
        rw [hre] at hr1 hf hr3 hr4 hcn hw0 hLn hpar
        obtain ⟨v, hv1, hv2, hv3, hv4⟩ := hcn
        have hv5 : max p (posS p q j) ≤ 1024 := by
          have h1 := posS_lt (a := p) (b := q) (j := j) (by omega) (by omega) (by omega)
          have h2 := num_bits_lt n s
          rw [hPJ.out] at h2
          have h3 := hPL.out
          have h4 : 2 ^ n ≤ 2 ^ 10 := Nat.pow_le_pow_right (by omega) hn3
          omega
        replace hv3 : v ≤ 1024 := by omega
        clear hv5 hre
        obtain ⟨ad, rfl, hadb, hcells⟩ := (Reads.below (hS.get (.head _)) hbe).2 (by omega)
        have hcell : wr.cell? (ad.add j) = some (.int .i64 (r : Int)) := hcells j _ (by simp [ints, hw0])
        have hcell1 : ∀ t, j = t + 1 → wr.cell? (ad.add t) = some (.int .i64 (nextS (posS p q t) q : Int)) := fun t ht => hcells t _ (by simp [ints, hw1 t ht])
        have hs32 : s < 4294967296 := by omega
        have hrn : (r : Int) < n := by omega
        have hr0 : (0 : Int) ≤ r := by omega
        have hs2 : s ^^^ 2 ^ r < 1024 := Nat.xor_lt_two_pow (n := 10) (by omega) (Nat.pow_lt_pow_right (by omega) (by omega))
        have hs232 : s ^^^ 2 ^ r < 4294967296 := by omega
        have hxg := Lib.hid (xor_go s r hs32 (by omega))
        have hN2 := Lib.hid hr4
        have hP2 := Lib.hid hr3
        have hL2 := Lib.hid hLn
        have hset := Lib.hid hv4
        have hval := Lib.hid hv1
        replace hf := Lib.hid hf
        clear hr3 hr4 hLn hv4 hv1 hw0 hw1 hcells
        go_upto_region 17 with (fail)
        go_cut [125] from 98 to 125 (fun u wx => u = .bool false ∧ Below wr.heap.size wr wx)
        case first =>
          rcases Nat.eq_zero_or_pos j with hj0 | hj0
          · subst hj0
            clear hcell1 hpar
            go_wp2_with (first
              | (go_at_call 42
                 refine (free_any s r (by omega) hs32 _ _ rfl rfl _).mono ?_
                 rintro e w2 ⟨rfl, hb2⟩
                 rw [hf.out]))
            go_meet
            exact ⟨by first | rfl | (simp; omega), hb2⟩
          · obtain ⟨t, rfl⟩ : ∃ t, j = t + 1 := ⟨j - 1, by omega⟩
            replace hpar := hpar t rfl
            replace hcell1 := hcell1 t rfl
            have ht0 : (0 : Int) < (t : Int) + 1 := by omega
            obtain ⟨r', hr'⟩ : ∃ r', nextS (posS p q t) q = r' := ⟨_, rfl⟩
            rw [hr'] at hpar hcell1
            clear hr'
            by_cases hz : r = 0
            · have hz1 : ((r : Int) == 0) = true := by simp; omega
              have hz2 : ((r' : Int) == 0) = false := by simp; omega
              clear hpar hz
              go_wp2_with (first
                | (go_at_call 42
                   refine (free_any s r (by omega) hs32 _ _ rfl rfl _).mono ?_
                   rintro e w2 ⟨rfl, hb2⟩
                   rw [hf.out]
                   have hcell2 := (hb2.cell (by rw [block_of_add]; have := hbe.size; omega)).trans hcell1))
              go_meet
              exact ⟨by first | rfl | (simp; omega), hb2⟩
            · have hz1 : ((r : Int) == 0) = false := by simp; omega
              have hz2 : ((r' : Int) == 0) = true := by simp; omega
              clear hpar hz
              go_wp2_with (first
                | (go_at_call 42
                   refine (free_any s r (by omega) hs32 _ _ rfl rfl _).mono ?_
                   rintro e w2 ⟨rfl, hb2⟩
                   rw [hf.out]
                   have hcell2 := (hb2.cell (by rw [block_of_add]; have := hbe.size; omega)).trans hcell1))
              go_meet
              exact ⟨by first | rfl | (simp; omega), hb2⟩
        case rest =>
          obtain ⟨rfl, hbc⟩ := hcut
          clear hcell1 hpar
          replace hbe := hbe.trans (hbc.mono hbe.size)
          replace hB := hB.callee hbc
          clear hbc
          have hc1 : wc.cell? ⟨gt, r, none⟩ = some (.int .i64 v) := by rw [hB.cell, intArr_at, hval.out]; rfl
          have hfz := hB.frozen r
          replace hB := hB.set_ r (.int .i64 (v + 1))
          rw [intArr_set, hset.out] at hB
          replace hbe := hbe.setCell hge (.int .i64 (v + 1)) (p := ⟨gt, r, none⟩)
          replace hS := hS.step hbe
          have hxg := hxg.out
          have _k1 := hT
          have _k2 := hT
          have _k3 := hT
          go_wp2_with (first
            | (go_at_call 33; clear _k1; refine (o_at hS (.tail _ (.tail _ (.head _))) (max_of (hS.get (.tail _ (.tail _ (.head _)))) (hBG.out _)) (.tail _ (.head _)) (max_of (hS.get (.tail _ (.head _))) (hBG.out _)) hEE.out hPE.out hQE.out (k := j + 1) (by omega) (by omega)).mono ?_; rintro e w1 ⟨Au, cu, rfl, hr, hb⟩; replace hS := hS.also hb hr; replace hB := hB.callee hb; replace hbe := hbe.trans (hb.mono hbe.size); clear hb hr)
            | (go_at_call 40; clear _k2; refine (o_given n (s ^^^ 2 ^ r) hn31 hs232 _).mono ?_; rintro e w1 ⟨Ao, co, rfl, hr, hb⟩; replace hS := hS.also hb hr; replace hB := hB.callee hb; replace hbe := hbe.trans (hb.mono hbe.size); clear hb hr)
            | (go_at_call 22; clear _k3; refine (o_same hS (.tail _ (.head _)) (max_of (hS.get (.tail _ (.head _))) (by rw [grayS_length]; omega)) (.head _) (max_of (hS.get (.head _)) (hBG.out _)) (gray_bits hP2.out)).mono ?_; rintro e w1 ⟨rfl, hb⟩; replace hS := hS.step hb; replace hB := hB.callee hb; replace hbe := hbe.trans (hb.mono hbe.size); clear hb))
          go_roundw
          case rel => exact ⟨j + 1, s ^^^ 2 ^ r, by omega, rfl, by go_num, hs2, hN2, hP2, hL2, hB, hbe⟩
          case measure => simp [intOf]; omega
      · obtain rfl : j = distS p q := by omega
        obtain rfl : s = b := by
          have h1 := hPJ.out
          rw [posS_end, ← hQE.out] at h1
          exact (num_bits hN.out hLB.out).1 h1
        rw [cntW_end] at hB
        have hLt : (wayN p q).take (distS p q) = wayN p q := List.take_of_length_le (by rw [wayN_length]; exact Nat.le_refl _)
        replace hLJ := hLJ.out
        rw [hLt] at hLJ
        have hLD := Lib.hid ((lead_end (b := s) hn2 (by omega) hLJ hN.out hLB.out).trans ((if_neg (by simp)).trans (if_pos rfl)))
        clear hLt hLJ
        replace hS := (hS.step hbe).add (RInts.of_blk hB (timesN_length _ _ _))
        have hCM := Lib.hid (distS_comm q p)
        have hdD : distS p q ≤ 100000 := by omega
        have _k1 := hT
        have _k2 := hT
        have _k3 := hT
        have _k4 := hT
        go_wp2_with (first
          | (go_at_call 31; clear _k1; refine (o_times hS (.tail _ (.tail _ (.tail _ (.head _)))) (max_of (hS.get (.tail _ (.tail _ (.tail _ (.head _))))) (hBG.out _)) (.tail _ (.tail _ (.head _))) (max_of (hS.get (.tail _ (.tail _ (.head _)))) (hBG.out _)) hEE.out hPE.out hQE.out).mono ?_; rintro e w1 ⟨Au, cu, rfl, hr, hb⟩; replace hS := hS.also hb hr; clear hb hr)
          | (go_at_call 27; clear _k2; refine (o_way hS (.tail _ (.tail _ (.tail _ (.head _)))) (max_of (hS.get (.tail _ (.tail _ (.tail _ (.head _))))) (hBG.out _)) (.tail _ (.tail _ (.tail _ (.tail _ (.head _))))) (max_of (hS.get (.tail _ (.tail _ (.tail _ (.tail _ (.head _)))))) (hBG.out _)) hEB.out hQE.out hPE.out hCM.out hdm).mono ?_; rintro e w1 ⟨Ak, ck, rfl, hr, hb⟩; replace hS := hS.also hb hr; clear hb hr)
          | (go_at_call 22; clear _k3; refine (o_same hS (.tail _ (.head _)) (max_of (hS.get (.tail _ (.head _))) (by rw [timesN_length]; omega)) (.tail _ (.tail _ (.head _))) (max_of (hS.get (.tail _ (.tail _ (.head _)))) (by rw [timesN_length]; omega)) rfl).mono ?_; rintro e w1 ⟨rfl, hb⟩; replace hS := hS.step hb; clear hb)
          | (go_at_call 29; clear _k4; refine (o_leads hS (.tail _ (.tail _ (.tail _ (.tail _ (.tail _ (.head _)))))) (max_of (hS.get (.tail _ (.tail _ (.tail _ (.tail _ (.tail _ (.head _))))))) (hBG.out _)) (.tail _ (.tail _ (.tail _ (.tail _ (.head _))))) (max_of (hS.get (.tail _ (.tail _ (.tail _ (.tail _ (.head _)))))) (hBG.out _)) (.tail _ (.tail _ (.tail _ (.head _)))) (max_of (hS.get (.tail _ (.tail _ (.tail _ (.head _))))) (by rw [wayN_length]; exact hdD)) hLD.out).mono ?_; rintro e w1 ⟨rfl, hb⟩; replace hS := hS.step hb; clear hb))
        go_loopw [199] (fun i wr => ∃ k : Nat, k ≤ distS p q ∧ i = .int .i64 k ∧ Below w1.heap.size w1 wr) (fun i _ => distS p q - (intOf i).toNat)
        case atStart => exact ⟨0, by omega, rfl, Below.refl _ _⟩
        case round =>
          obtain ⟨i, hi, rfl, hbe⟩ := hrel
          by_cases hlt2 : i < distS p q
          · have hw0 := wayN_at hlt2
            have hwb := way_back hlt2
            obtain ⟨r, hre⟩ : ∃ r, nextS (posS p q i) q = r := ⟨_, rfl⟩
            obtain ⟨m, hme⟩ : ∃ m, distS p q - 1 - i = m := ⟨_, rfl⟩
            have hmi : (distS p q : Int) - 1 - i = (m : Int) := by omega
            have hmd : (m : Int) < distS p q := by omega
            rw [hre] at hw0 hwb
            rw [hme] at hwb
            obtain ⟨ad, rfl, hadb, hcells⟩ := (Reads.below (hS.get (.tail _ (.tail _ (.tail _ (.head _))))) hbe).2 (by omega)
            have hcell : wr.cell? (ad.add i) = some (.int .i64 (r : Int)) := hcells i _ (by simp [ints, hw0])
            obtain ⟨ae, rfl, haeb, hcelle⟩ := (Reads.below (hS.get (.head _)) hbe).2 (by omega)
            have hcell2 : wr.cell? (ae.add m) = some (.int .i64 (r : Int)) := hcelle m _ (by simp [ints, hwb])
            clear hcells hcelle hw0 hwb hre hme
            go_wp2_with (fail)
            go_roundw
            case rel => exact ⟨i + 1, by omega, by go_num, hbe⟩
            case measure => simp [intOf]; omega
          · obtain rfl : i = distS p q := by omega
            replace hS := hS.step hbe
            have _k1 := hT
            have _k2 := hT
            have _k3 := hT
            have _k4 := hT
            have _k5 := hT
            have _k6 := hT
            have _k7 := hT
            go_wp2_with (first
              | (go_at_call 33; clear _k1; refine (o_at_bad hS (.tail _ (.tail _ (.tail _ (.tail _ (.tail _ (.head _)))))) (max_of (hS.get (.tail _ (.tail _ (.tail _ (.tail _ (.tail _ (.head _))))))) (hBG.out _)) (.tail _ (.tail _ (.tail _ (.tail _ (.head _))))) (max_of (hS.get (.tail _ (.tail _ (.tail _ (.tail _ (.head _)))))) (hBG.out _)) hEE.out hPE.out hQE.out (by omega)).mono ?_; rintro e w1 ⟨Aj, nj, cj, rfl, hb⟩; replace hS := hS.step hb; clear hb)
              | (go_at_call 25; clear _k2; refine (o_next_any hS (.tail _ (.tail _ (.tail _ (.tail _ (.tail _ (.head _)))))) (max_of (hS.get (.tail _ (.tail _ (.tail _ (.tail _ (.tail _ (.head _))))))) (hBG.out _)) (.tail _ (.tail _ (.tail _ (.tail _ (.head _))))) (max_of (hS.get (.tail _ (.tail _ (.tail _ (.tail _ (.head _)))))) (hBG.out _)) hEE.out hPE.out hQE.out).mono ?_; rintro e w1 ⟨yy, ee, rfl, hfin, hb⟩; replace hS := hS.step hb; clear hb)
              | (go_at_call 40; clear _k3
                 refine (given_own n a hn31 ha32 _ _ rfl rfl _).mono ?_
                 rintro e w3 ⟨v5, rfl, hown5, hbq⟩)
              | (at_builtin
                 clear _k4
                 refine wpList_push rfl _ _ rfl rfl (hown5.none_ (World.grownBy_alloc w3 _ none)) w3.heap.size 1 0 rfl (Blk.new _ _ _) (by rw [bitS_length]; omega) (by simp; have := hbq.size; omega) ?_
                 intro g5 cap5 w5 hown6 hg5 hat5 hlt5
                 have hbq5 := (hbq.alloc hbq.size _).grown hg5 (by simp; have := hbq.size; omega) (fun j hj => hown5.ge hj)
                 clear hg5 hat5)
              | (go_at_call 40; clear _k5
                 refine (given_own n s hn31 hb32 _ _ rfl rfl _).mono ?_
                 rintro e w6 ⟨v7, rfl, hown7, hb7⟩
                 replace hown6 := hown6.callee hb7
                 have hbq6 := hbq5.trans (hb7.mono hbq5.size))
              | (at_builtin
                 clear _k6
                 refine wpList_push rfl _ _ rfl rfl (hown7.none_ (World.grownBy_alloc w6 _ none)) w6.heap.size 1 0 rfl (Blk.new _ _ _) (by rw [bitS_length]; omega) (by simp; have := hb7.size; omega) ?_
                 intro g8 cap8 w8 hown8 hg8 hat8 hlt8
                 have hA := hown6.none_ (World.grownBy_alloc w6 (.cells #[.int .i64 0] 3) none)
                 have hown9 := OwnI.keep (w' := w8) hA (fun g hg => hg8.block g (hA.lt hg) (fun e => by
                   have h1 := hown7.ge e.symm
                   simp only [Value.ownBlock, Option.some.injEq] at hg
                   omega))
                 have hbq8 := (hbq6.alloc hbq6.size _).grown hg8 (by simp; have := hbq6.size; omega) (fun j hj => by have h1 := hown7.ge hj; have h2 := hbq5.size; omega)
                 clear hg8 hat8)
              | (go_at_call 23; refine (o_distance (((hS.step hbq8).add hown9.reads_at.2).add hown8.reads_at.2) (.tail _ (.head _)) (by rw [bitS_length]; unfold maxLen; omega) (.head _) (by rw [bitS_length]; unfold maxLen; omega) (both_off (by omega)) ((numS_off _).trans hPE.out) ((numS_off _).trans hQE.out)).mono ?_; rintro e w1 ⟨rfl, hb⟩; replace hS := (hS.step hbq8).step hb; clear hb)
              | (go_at_call 15; clear _k7; refine (o_works hS).mono ?_; rintro e w1 ⟨rfl, hb⟩; replace hS := hS.step hb; clear hb))
            go_ret
            exact ⟨rfl, hS.2.1⟩
end Go.Proofs.YtjhcemhnnkcjaaaDoor
