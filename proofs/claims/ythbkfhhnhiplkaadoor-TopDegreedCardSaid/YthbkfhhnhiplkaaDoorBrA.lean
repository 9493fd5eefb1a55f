/- branch's Count and With. -/
import Derived.Test.YthbkfhhnhiplkaaDoorPkA
import Derived.Test.YthbkfhhnhiplkaaDoorShelf
namespace Go.Proofs.YthbkfhhnhiplkaaDoor
open Go.RowKit
namespace Br
open Bu (natI natI_at)
theorem within_any (n a b : Int) (w : World) : Calls Tryd.prog 19 #[.int .i64 n, .int .i64 a, .int .i64 b] w fun e w' => e = .returned (.bool (decide (a ≤ n ∧ n ≤ b))) ∧ w' = w := by
  by_cases h1 : a ≤ n
  · by_cases h2 : n ≤ b
    · have hR := Lib.hid (show decide (a ≤ n ∧ n ≤ b) = true by simp [h1, h2])
      rw [hR.out]
      go_enter Tryd.func19, Tryd.ntmps19
      go_wp2_with (fail)
      go_ret
      exact ⟨rfl, rfl⟩
    · have hR := Lib.hid (show decide (a ≤ n ∧ n ≤ b) = false by simp [h2])
      rw [hR.out]
      go_enter Tryd.func19, Tryd.ntmps19
      go_wp2_with (fail)
      go_ret
      exact ⟨rfl, rfl⟩
  · have hR := Lib.hid (show decide (a ≤ n ∧ n ≤ b) = false by simp [h1])
    rw [hR.out]
    go_enter Tryd.func19, Tryd.ntmps19
    go_wp2_with (fail)
    go_ret
    exact ⟨rfl, rfl⟩
theorem pow_le {n k : Nat} (hn : n ≤ 9) (hk : k ≤ 7) : n ^ k ≤ 4782969 :=
  Nat.le_trans (Nat.pow_le_pow_left hn k) (Nat.le_trans (Nat.pow_le_pow_right (by omega) hk) (by decide))
set_option maxRecDepth 100000 in
set_option maxHeartbeats 1000000 in
theorem Count_ok (n : Nat) (h1 : 2 ≤ n) (h9 : n ≤ 9) (w : World) : Calls Tryd.prog 6 #[.int .i64 (n : Int)] w fun e w' => e = .returned (.tuple #[.int .i64 ((n ^ (n - 2) : Nat) : Int), .int .i64 0]) ∧ w' = w := by
  have hwi := Lib.hid (fun w' => within_any (n : Int) 1 9 w')
  rw [decide_eq_true (by omega)] at hwi
  obtain ⟨m, hm⟩ : ∃ m, n - 2 = m := ⟨_, rfl⟩
  rw [hm]
  have hmi : (n : Int) - 2 = m := by omega
  obtain ⟨R, hR⟩ : ∃ R, n ^ m = R := ⟨_, rfl⟩
  rw [hR]
  have hRH := Lib.hid hR
  have hm7 : m ≤ 7 := by omega
  clear hm hR
  go_enter Tryd.func6, Tryd.ntmps6
  go_wp2_with (first
    | (go_at_call 19; (with_reducible refine (hwi.out _).mono ?_); rintro e wz ⟨rfl, hwz⟩; replace hwz := hwz.symm; subst hwz))
  go_loopw [4, 10] (fun p v wr => ∃ (i y : Nat), i ≤ m ∧ v = .int .i64 i ∧ p = .int .i64 y ∧ y ≤ 4782969 ∧ Hid (n ^ i = y) ∧ w = wr) (fun _ v _ => m - (intOf v).toNat)
  case atStart => exact ⟨0, 1, by omega, rfl, rfl, by omega, Lib.hid rfl, rfl⟩
  case round =>
    obtain ⟨i, y, hi, rfl, rfl, hyb, hy, hw⟩ := hrel
    subst hw
    by_cases hlt : i < m
    · have hlti : (i : Int) < m := by omega
      obtain ⟨z, hz⟩ : ∃ z, y * n = z := ⟨_, rfl⟩
      have hzi : (y : Int) * (n : Int) = z := by rw [← hz]; simp
      have hN := Lib.hid (show n ^ (i + 1) = z by rw [Nat.pow_succ, hy.out, hz])
      have hzb : z ≤ 4782969 := by rw [← hN.out]; exact pow_le h9 (by omega)
      clear hz
      go_wp2_with (fail)
      go_roundw
      case rel => exact ⟨i + 1, z, by omega, by go_num, rfl, hzb, hN, by first | rfl | trivial⟩
      case measure => simp only [intOf]; omega
    · have hlti : ¬ (i : Int) < m := by omega
      obtain rfl : i = m := by omega
      have hyR : y = R := by rw [← hy.out, hRH.out]
      subst hyR
      go_wp2_with (fail)
      go_ret2
      exact ⟨rfl, rfl⟩
/-- With's reckoning: the places of one degree, then of all -/
def oneW : Nat → Nat → Nat × Nat → Nat × Nat
  | 0, _, s => s
  | u + 1, i, (o, p) => oneW u (i + 1) (o * p / i, p - 1)
def allW : List Nat → Nat × Nat → Nat × Nat
  | [], s => s
  | d :: l, s => allW l (oneW (d - 1) 1 s)
def withV (ds : List Nat) : Nat := (allW ds (1, ds.length - 2)).1
structure Deg (ds : List Nat) : Prop where
  lo : 2 ≤ ds.length
  hi : ds.length ≤ 8
  rng : ∀ d ∈ ds, 1 ≤ d ∧ d ≤ ds.length - 1
  sum : ds.sum = 2 * ds.length - 2
theorem oneW_at (u i o p : Nat) : oneW (u + 1) i (o, p) = oneW u (i + 1) (o * p / i, p - 1) := rfl
theorem allW_at {ds : List Nat} {i d : Nat} (h : ds[i]? = some d) (s : Nat × Nat) : allW (ds.drop i) s = allW (ds.drop (i + 1)) (oneW (d - 1) 1 s) := by
  obtain ⟨hj, he⟩ := List.getElem?_eq_some_iff.1 h
  rw [List.drop_eq_getElem_cons hj, he, allW]
theorem sum_drop {ds : List Nat} {i d : Nat} (h : ds[i]? = some d) : (ds.drop i).sum = d + (ds.drop (i + 1)).sum := by
  obtain ⟨hj, he⟩ := List.getElem?_eq_some_iff.1 h
  rw [List.drop_eq_getElem_cons hj, he, List.sum_cons]
theorem len_le_sum {ds : List Nat} (h : ∀ d ∈ ds, 1 ≤ d) : ds.length ≤ ds.sum := by
  induction ds with
  | nil => exact Nat.le_refl _
  | cons d l ih =>
    have h1 := h d (by simp)
    have h2 := ih fun x hx => h x (by simp [hx])
    simp only [List.length_cons, List.sum_cons]
    omega
theorem out_small {o p : Nat} (h : o * 6 ^ p ≤ 46656) : o ≤ 46656 := by
  have h1 : 1 ≤ 6 ^ p := Nat.one_le_pow _ _ (by omega)
  calc o = o * 1 := (Nat.mul_one o).symm
    _ ≤ o * 6 ^ p := Nat.mul_le_mul_left o h1
    _ ≤ 46656 := h
theorem out_next {o p i : Nat} (hp : p + 1 ≤ 6) (h : o * 6 ^ (p + 1) ≤ 46656) : o * (p + 1) / i * 6 ^ p ≤ 46656 := by
  have h1 : o * (p + 1) / i ≤ o * 6 := Nat.le_trans (Nat.div_le_self _ _) (Nat.mul_le_mul_left o hp)
  refine Nat.le_trans (Nat.mul_le_mul_right _ h1) ?_
  rw [Nat.mul_assoc, ← Nat.pow_succ']
  exact h
set_option maxRecDepth 100000 in
set_option maxHeartbeats 4000000 in
theorem With_ok (g n c : Nat) (ds : List Nat) (hD : Deg ds) (w : World) (B : Nat) (hr : RInts w B (some ⟨g, 0, none⟩) n (natI ds)) : Calls Tryd.prog 8 #[.slice (some ⟨g, 0, none⟩) n c] w fun e w' => e = .returned (.tuple #[.int .i64 (withV ds : Nat), .int .i64 0]) ∧ w' = w := by
  have hxl : ds.length = n := by simpa [natI] using hr.len
  have h2 := hD.lo
  have h8 := hD.hi
  rw [hxl] at h2 h8
  have hDH := Lib.hid hD
  have hpos := Lib.hid (fun d (h : d ∈ ds) => (hD.rng d h).1)
  obtain ⟨mn, hmn⟩ : ∃ m, Lib.minOf ((natI ds).take n) = m := ⟨_, rfl⟩
  have hmn1 : 1 ≤ mn := by
    rw [← hmn]
    refine Pk.minOf_ge (by rw [List.length_take, show (natI ds).length = n by simp [natI, hxl]]; omega) fun x hx => ?_
    have h3 := List.mem_of_mem_take hx
    unfold natI at h3
    obtain ⟨d, h4, rfl⟩ := List.mem_map.1 h3
    have := (hD.rng d h4).1
    omega
  have hmnb : (mn == 0) = false := by simp; omega
  have cmn := Lib.hid (Tryd.slices_Min_int g 0 n c (natI ds) w (by omega) (by simp [natI, hxl]) (by omega) (Pk.RInts.none_none hr))
  rw [hmn] at cmn
  have hwi := Lib.hid (fun w' => within_any (n : Int) 1 9 w')
  rw [decide_eq_true (by omega)] at hwi
  have hwd := Lib.hid (fun (d : Nat) w' => within_any (d : Int) 0 ((n : Int) - 1) w')
  obtain ⟨R, hR⟩ : ∃ R, withV ds = R := ⟨_, rfl⟩
  rw [hR]
  have hR0 := Lib.hid (show (allW (ds.drop 0) (1, n - 2)).1 = R by rw [List.drop_zero, ← hxl]; exact hR)
  have hn1b : ((n : Int) == 1) = false := by simp; omega
  clear hD hmn hR hmn1
  go_enter Tryd.func8, Tryd.ntmps8
  go_wp2_with (first
    | (go_at_call 19; (with_reducible refine (hwi.out _).mono ?_); rintro e wz ⟨rfl, hwz⟩; replace hwz := hwz.symm; subst hwz))
  go_loopw [5, 20] (fun t v wr => ∃ i y : Nat, i ≤ n ∧ v = .int .i64 i ∧ t = .int .i64 y ∧ y ≤ 14 ∧ Hid (y + (ds.drop i).sum = 2 * n - 2) ∧ w = wr) (fun _ v _ => n - (intOf v).toNat)
  case atStart => exact ⟨0, 0, by omega, rfl, rfl, by omega, Lib.hid (by rw [List.drop_zero, hDH.out.sum, hxl]; omega), rfl⟩
  case round =>
    obtain ⟨i, y, hi, rfl, rfl, hyb, hy, hw⟩ := hrel
    subst hw
    by_cases hlt : i < n
    · have hlti : (i : Int) < n := by omega
      obtain ⟨ad, z, e0, _, hcell, hz⟩ := hr.at_ hlt
      injection e0 with e0
      subst e0
      obtain ⟨d, hd, rfl⟩ := natI_at hz.out
      rw [show (⟨g, 0, none⟩ : Addr).add i = ⟨g, i, none⟩ by unfold Addr.add; split <;> simp_all] at hcell
      have hdr := hDH.out.rng d (List.mem_of_getElem? hd)
      rw [hxl] at hdr
      have hst := sum_drop hd
      have hy0 := hy.out
      have hN := Lib.hid (show (y + d) + (ds.drop (i + 1)).sum = 2 * n - 2 by omega)
      have hyd : y + d ≤ 14 := by omega
      have hwd1 := Lib.hid (hwd.out d w)
      rw [decide_eq_true (by omega)] at hwd1
      clear hst hy0 hz hd
      go_wp2_with (first
        | (go_at_call 19; (with_reducible refine hwd1.out.mono ?_); rintro e wz ⟨rfl, hwz⟩; replace hwz := hwz.symm; subst hwz))
      go_roundw
      case rel => exact ⟨i + 1, y + d, by omega, by go_num, by go_num, hyd, hN, by first | rfl | trivial⟩
      case measure => simp only [intOf]; omega
    · have hlti : ¬ (i : Int) < n := by omega
      have hye : (y : Int) = 2 * n - 2 := by
        have h1 := hy.out
        rw [List.drop_of_length_le (by omega), List.sum_nil] at h1
        omega
      have hyb2 : ((y : Int) != 2 * (n : Int) - 2) = false := by rw [hye]; simp
      clear hye
      go_wp2_with (first
        | (go_at_call 22; (with_reducible refine cmn.out.mono ?_); rintro e wz ⟨rfl, hwz⟩; replace hwz := hwz.symm; subst hwz))
      have hs0 := Lib.hid (show (ds.drop 0).sum = (n - 2) + (n - 0) by rw [List.drop_zero, hDH.out.sum, hxl]; omega)
      have hb0 : 1 * 6 ^ (n - 2) ≤ 46656 := by
        rw [Nat.one_mul]
        exact Nat.le_trans (Nat.pow_le_pow_right (by omega) (show n - 2 ≤ 6 by omega)) (by decide)
      obtain ⟨n2, hn2⟩ : ∃ q, n - 2 = q := ⟨_, rfl⟩
      have hn2i : (n : Int) - 2 = n2 := by omega
      rw [hn2] at hs0 hb0 hR0
      have hn26 : n2 ≤ 6 := by omega
      clear hn2 hy hyb hyb2
      go_loopw [8, 9, 50] (fun o p v wr => ∃ i y q : Nat, i ≤ n ∧ v = .int .i64 i ∧ o = .int .i64 y ∧ p = .int .i64 q ∧ q ≤ 6 ∧ Hid (y * 6 ^ q ≤ 46656) ∧ Hid ((allW (ds.drop i) (y, q)).1 = R) ∧ Hid ((ds.drop i).sum = q + (n - i)) ∧ w = wr) (fun _ _ v _ => n - (intOf v).toNat)
      case atStart => exact ⟨0, 1, n2, by omega, rfl, rfl, by rw [hn2i], hn26, hb0, hR0, hs0, rfl⟩
      case round =>
        obtain ⟨i, y, q, hi, rfl, rfl, rfl, hq6, hyq, hA, hsm, hw⟩ := hrel
        subst hw
        by_cases hlt : i < n
        · have hlti : (i : Int) < n := by omega
          obtain ⟨ad, z, e0, _, hcell, hz⟩ := hr.at_ hlt
          injection e0 with e0
          subst e0
          obtain ⟨d, hd, rfl⟩ := natI_at hz.out
          rw [show (⟨g, 0, none⟩ : Addr).add i = ⟨g, i, none⟩ by unfold Addr.add; split <;> simp_all] at hcell
          have hdr := hDH.out.rng d (List.mem_of_getElem? hd)
          rw [hxl] at hdr
          have hst := sum_drop hd
          have hsm0 := hsm.out
          have hrest : n - (i + 1) ≤ (ds.drop (i + 1)).sum := by
            have h1 := len_le_sum (ds := ds.drop (i + 1)) fun d hd => hpos.out d (List.mem_of_mem_drop hd)
            rw [List.length_drop, hxl] at h1
            exact h1
          obtain ⟨q2, hq2⟩ : ∃ q2, q = (d - 1) + q2 := ⟨q - (d - 1), by omega⟩
          have hsN := Lib.hid (show (ds.drop (i + 1)).sum = q2 + (n - (i + 1)) by omega)
          have hA0 := hA.out
          rw [allW_at hd] at hA0
          obtain ⟨Tt, hT⟩ : ∃ T, oneW (d - 1) 1 (y, q) = T := ⟨_, rfl⟩
          rw [hT] at hA0
          have hTH := Lib.hid hT
          have hAH := Lib.hid hA0
          have hd9 : d ≤ 9 := by omega
          have hd1 : 1 ≤ d := hdr.1
          have hqq := Lib.hid hq2
          clear hst hsm0 hrest hq2 hA0 hT hz hd hdr
          go_wp2_with (fail)
          go_loopw [8, 9, 12] (fun o p v wr => ∃ j u y2 p2 : Nat, 1 ≤ j ∧ j + u = d ∧ p2 = u + q2 ∧ v = .int .i64 j ∧ o = .int .i64 y2 ∧ p = .int .i64 p2 ∧ p2 ≤ 6 ∧ Hid (y2 * 6 ^ p2 ≤ 46656) ∧ Hid (oneW u j (y2, p2) = Tt) ∧ w = wr) (fun _ _ v _ => d - (intOf v).toNat)
          case atStart => exact ⟨1, d - 1, y, q, by omega, by omega, hqq.out, rfl, rfl, rfl, hq6, hyq, hTH, rfl⟩
          case round =>
            obtain ⟨j, u, y2, p2, h1j, hju, hp2, rfl, rfl, rfl, hp6, hyp, hO, hw⟩ := hrel
            subst hw
            by_cases hlt2 : j < d
            · have hlti2 : (j : Int) < d := by omega
              obtain ⟨u1, rfl⟩ : ∃ u1, u = u1 + 1 := ⟨u - 1, by omega⟩
              obtain ⟨p3, rfl⟩ : ∃ p3, p2 = p3 + 1 := ⟨p2 - 1, by omega⟩
              have hsml := out_small hyp.out
              obtain ⟨z, hz⟩ : ∃ z, y2 * (p3 + 1) = z := ⟨_, rfl⟩
              have hzb : z ≤ 279936 := by
                rw [← hz]
                have h1 := Nat.mul_le_mul hsml hp6
                omega
              have hzi : (y2 : Int) * ((p3 + 1 : Nat) : Int) = z := by rw [← hz]; simp
              obtain ⟨zd, hzd⟩ : ∃ zd, z / j = zd := ⟨_, rfl⟩
              have htd : Int.tdiv (z : Int) (j : Int) = zd := by rw [← hzd]; rfl
              have hzdb : zd ≤ 279936 := by
                rw [← hzd]
                exact Nat.le_trans (Nat.div_le_self _ _) hzb
              have hj0 : ((j : Int) == 0) = false := by simp; omega
              have hjn : (j : Int) ≠ 0 := by omega
              have hN := Lib.hid (show zd * 6 ^ p3 ≤ 46656 by rw [← hzd, ← hz]; exact out_next hp6 hyp.out)
              have hO2 := Lib.hid (show oneW u1 (j + 1) (zd, p3) = Tt by
                rw [← hzd, ← hz]
                have h1 := hO.out
                rw [oneW_at] at h1
                exact h1)
              obtain ⟨p4, hp4⟩ : ∃ p4, p3 + 1 = p4 := ⟨_, rfl⟩
              rw [hp4] at hzi ⊢
              have hp4i : (p4 : Int) - 1 = p3 := by omega
              have hp46 : p4 ≤ 6 := by omega
              have hy2b : y2 ≤ 46656 := hsml
              clear hz hzd hsml
              go_wp2_with (fail)
              go_roundw
              case rel => exact ⟨j + 1, u1, zd, p3, by omega, by omega, by omega, by go_num, rfl, rfl, by omega, hN, hO2, by first | rfl | trivial⟩
              case measure => simp only [intOf]; omega
            · have hlti2 : ¬ (j : Int) < d := by omega
              obtain rfl : u = 0 := by omega
              have hT2 : (y2, p2) = Tt := hO.out
              subst hT2
              have hp2' : q2 = p2 := by omega
              clear hp2 hju
              subst hp2'
              go_wp2_with (fail)
              exact ⟨⟨.int .i64 y2, .int .i64 q2, _, _, .int .i64 ((i : Int) + 1), ⟨i + 1, by omega, by go_num, y2, rfl, q2, rfl, hp6, hyp, hAH, hsN⟩, rfl, rfl, rfl, rfl, rfl⟩, by simp only [intOf]; omega⟩
        · have hlti : ¬ (i : Int) < n := by omega
          have hyR : y = R := by
            have h1 := hA.out
            rwa [List.drop_of_length_le (by omega), allW] at h1
          subst hyR
          go_wp2_with (fail)
          go_ret2
          exact ⟨rfl, rfl⟩
end Br
end Go.Proofs.YthbkfhhnhiplkaaDoor
