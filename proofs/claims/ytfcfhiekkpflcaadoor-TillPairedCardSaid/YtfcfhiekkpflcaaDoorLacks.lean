/- The first customer for whom change lacks; Coins, Lacks, Needs. -/
import Derived.Test.YtfcfhiekkpflcaaDoorStart
namespace Go.Proofs.YtfcfhiekkpflcaaDoor
open Go.RowKit
set_option maxRecDepth 100000 in
set_option maxHeartbeats 1000000 in
theorem neg_any (n : Int) (w : World) : Calls Tryd.prog 67 #[.int .i64 n] w fun e w' => e = .returned (.bool (decide (n < 0))) ∧ w' = w := by
  go_enter Tryd.func67, Tryd.ntmps67
  go_wp2_with (fail)
  go_ret
  exact ⟨rfl, rfl⟩
theorem negI_step {xs : List Int} {i : Nat} {x : Int} (h : xs[i]? = some x) : negI (xs.drop i) i = if x < 0 then (i : Int) else negI (xs.drop (i + 1)) (i + 1) := by
  obtain ⟨hi, rfl⟩ := List.getElem?_eq_some_iff.1 h
  rw [List.drop_eq_getElem_cons hi, negI]
set_option maxRecDepth 100000 in
set_option maxHeartbeats 4000000 in
theorem indexNeg_any (A : Option Addr) (n c : Nat) (xs : List Int) (w : World) (B : Nat) (hr : RInts w B A n xs) (hn6 : n ≤ 1000000) :
    Calls Tryd.prog 66 #[.slice A n c, .func (.func 67) #[] #[]] w fun e w' => e = .returned (.int .i64 (negI xs 0)) ∧ w' = w := by
  have eg := enters_of Tryd.func67 (by kernel_rfl) rfl
  obtain ⟨R, hR⟩ : ∃ R, negI xs 0 = R := ⟨_, rfl⟩
  have hRH := Lib.hid (show negI (xs.drop 0) 0 = R from hR)
  have hlen := Lib.hid hr.len
  rw [hR]
  clear hR
  go_enter Tryd.func66, Tryd.ntmps66
  go_wp2_with (fail)
  go_loopw [8] (fun v wr => ∃ i : Nat, i ≤ n ∧ v = .int .i64 i ∧ Hid (negI (xs.drop i) i = R) ∧ w = wr) (fun v _ => n - (intOf v).toNat)
  case atStart => exact ⟨0, by omega, rfl, hRH, rfl⟩
  case round =>
    obtain ⟨i, hin, rfl, hL, rfl⟩ := hrel
    by_cases hlt : i < n
    · have hlti : (i : Int) < n := by omega
      obtain ⟨ad, u, rfl, hadb, hu, hcell⟩ := Reads.at_ hr hlt
      obtain ⟨x, hx⟩ : ∃ x, xs[i]? = some x := ⟨_, List.getElem?_eq_getElem (by rw [hlen.out]; exact hlt)⟩
      obtain rfl : u = .int .i64 x := by
        rw [ints, List.getElem?_map, hx] at hu
        simpa using hu.symm
      have hst := negI_step hx
      rw [hL.out] at hst
      have hng := Lib.hid (neg_any x w)
      by_cases hq : x < 0
      · have hN := Lib.hid (show R = (i : Int) by rw [hst, if_pos hq])
        have hqH := Lib.hid (show decide (x < 0) = true by simp [hq])
        clear hst hq hu hx
        go_wp2_with (first
          | (with_reducible show Calls _ _ _ _ _; refine hng.out.mono ?_; rintro e w1 ⟨rfl, rfl⟩; rw [hqH.out]))
        go_ret
        exact ⟨by rw [hN.out]; rfl, rfl⟩
      · have hN := Lib.hid (show negI (xs.drop (i + 1)) (i + 1) = R by rw [hst, if_neg hq])
        have hqH := Lib.hid (show decide (x < 0) = false by simp [hq])
        clear hst hq hu hx
        go_wp2_with (first
          | (with_reducible show Calls _ _ _ _ _; refine hng.out.mono ?_; rintro e w1 ⟨rfl, rfl⟩; rw [hqH.out]))
        go_roundw
        case rel =>
          exact ⟨i + 1, by omega, by go_num, hN, by first | rfl | trivial⟩
        case measure => simp only [intOf]; omega
    · have hlti : ¬ (i : Int) < n := by omega
      have hN := Lib.hid (show R = -1 by rw [← hL.out, List.drop_of_length_le (by rw [hlen.out]; omega)]; rfl)
      go_wp2_with (fail)
      go_ret
      exact ⟨by rw [hN.out]; rfl, rfl⟩
set_option maxRecDepth 100000 in
set_option maxHeartbeats 4000000 in
theorem lacks_any (s : ByteArray) (b : Int) (hs : s.size ≤ 1000) (hok : okT (bts s) = true) (hb : -1000000 ≤ b ∧ b ≤ 1000000) (w : World) :
    Calls Tryd.prog 48 #[.string s, .int .i64 b] w fun e w' => e = .returned (.int .i64 (lacksT (bts s) b)) ∧ Below w.heap.size w w' := by
  have hst := Lib.hid (steps_any s b hs hok hb w)
  have hR := Lib.hid (show lacksT (bts s) b = negI (stepsT b (bts s)) 0 from rfl)
  have hsl : (stepsT b (bts s)).length ≤ 1000000 := by rw [steps_len, bts_len]; omega
  clear hok
  go_enter Tryd.func48, Tryd.ntmps48
  go_wp2_with (first
    | (go_at_call 49; (with_reducible refine hst.out.mono ?_); rintro e w1 ⟨v, rfl, ho, hb1⟩
       obtain ⟨A, c, rfl, hr⟩ := ho.reads)
    | (go_at_call 66; (with_reducible refine (indexNeg_any A _ c _ w1 _ hr hsl).mono ?_); rintro e w2 ⟨rfl, rfl⟩))
  go_ret
  exact ⟨by rw [hR.out]; rfl, hb1⟩
/-- what is returned -/
def coinL (l : Word) (b : Int) : List Int := if opT l b = 0 ∧ lacksT l b < 0 then stepsT b l else []
def coinE (l : Word) (b : Int) : Int := if opT l b ≠ 0 then opT l b else if lacksT l b < 0 then 0 else 14
def lackV (l : Word) (b : Int) : Int := if opT l b = 0 ∧ 0 ≤ lacksT l b then lacksT l b else 0
def lackE (l : Word) (b : Int) : Int := if opT l b ≠ 0 then opT l b else if lacksT l b < 0 then 12 else 0
def needV (l : Word) : Int := if chkT l = 0 then -((stepsT 0 l).foldl min 0) else 0
set_option maxRecDepth 100000 in
set_option maxHeartbeats 4000000 in
theorem Coins_any (s : ByteArray) (b : Int) (w : World) : Calls Tryd.prog 14 #[.string s, .int .i64 b] w (RetIE (coinL (bts s) b) (coinE (bts s) b) w) := by
  obtain ⟨k, hk⟩ : ∃ k, opT (bts s) b = k := ⟨_, rfl⟩
  have hkH := Lib.hid hk
  by_cases h0 : k = 0
  · subst h0
    obtain ⟨h1, h2, h3⟩ := opT_zero hk
    obtain ⟨h4, h5⟩ := chkT_zero h1
    rw [bts_len] at h4
    obtain ⟨n, hn⟩ : ∃ n, lacksT (bts s) b = n := ⟨_, rfl⟩
    have hlk := Lib.hid (fun w' => lacks_any s b (by omega) h5 (by omega) w')
    have hst := Lib.hid (fun w' => steps_any s b (by omega) h5 (by omega) w')
    rw [hn] at hlk
    by_cases hq : n < 0
    · have hR := Lib.hid (show coinL (bts s) b = stepsT b (bts s) ∧ coinE (bts s) b = 0 by unfold coinL coinE; rw [hk, hn]; simp [hq])
      have hqi : ¬ (0 : Int) ≤ n := by omega
      clear hk hn h1 h5
      rw [hR.out.1, hR.out.2]
      go_enter Tryd.func14, Tryd.ntmps14
      go_wp2_with (first
        | (go_at_call 47; (with_reducible refine (opened_any _ _ _).mono ?_); rintro e w1 ⟨rfl, hb1⟩; rw [hkH.out])
        | (go_at_call 48; (with_reducible refine (hlk.out _).mono ?_); rintro e w2 ⟨rfl, hb2⟩; replace hb2 := hb1.trans (hb2.mono hb1.size))
        | (go_at_call 49; (with_reducible refine (hst.out _).mono ?_); rintro e w3 ⟨v, rfl, ho, hb3⟩))
      go_ret2
      exact ⟨_, rfl, ho.rebase hb2.size, hb2.trans (hb3.mono hb2.size)⟩
    · have hR := Lib.hid (show coinL (bts s) b = [] ∧ coinE (bts s) b = 14 by unfold coinL coinE; rw [hk, hn]; simp [hq])
      have hqi : (0 : Int) ≤ n := by omega
      clear hk hn h1 h5 hst
      rw [hR.out.1, hR.out.2]
      go_enter Tryd.func14, Tryd.ntmps14
      go_wp2_with (first
        | (go_at_call 47; (with_reducible refine (opened_any _ _ _).mono ?_); rintro e w1 ⟨rfl, hb1⟩; rw [hkH.out])
        | (go_at_call 48; (with_reducible refine (hlk.out _).mono ?_); rintro e w2 ⟨rfl, hb2⟩; replace hb2 := hb1.trans (hb2.mono hb1.size)))
      go_ret2
      exact ⟨_, rfl, OwnI.nil _ _, hb2⟩
  · have hR := Lib.hid (show coinL (bts s) b = [] ∧ coinE (bts s) b = k by unfold coinL coinE; rw [hk]; simp [h0])
    have hk0 : (k != 0) = true := by simp [h0]
    clear hk
    rw [hR.out.1, hR.out.2]
    go_enter Tryd.func14, Tryd.ntmps14
    go_wp2_with (first
      | (go_at_call 47; (with_reducible refine (opened_any _ _ _).mono ?_); rintro e w1 ⟨rfl, hb1⟩; rw [hkH.out]))
    go_ret2
    exact ⟨_, rfl, OwnI.nil _ _, hb1⟩
set_option maxRecDepth 100000 in
set_option maxHeartbeats 4000000 in
theorem Lacks_any (s : ByteArray) (b : Int) (w : World) : Calls Tryd.prog 16 #[.string s, .int .i64 b] w fun e w' => e = .returned (.tuple #[.int .i64 (lackV (bts s) b), .int .i64 (lackE (bts s) b)]) ∧ Below w.heap.size w w' := by
  obtain ⟨k, hk⟩ : ∃ k, opT (bts s) b = k := ⟨_, rfl⟩
  have hkH := Lib.hid hk
  by_cases h0 : k = 0
  · subst h0
    obtain ⟨h1, h2, h3⟩ := opT_zero hk
    obtain ⟨h4, h5⟩ := chkT_zero h1
    rw [bts_len] at h4
    obtain ⟨n, hn⟩ : ∃ n, lacksT (bts s) b = n := ⟨_, rfl⟩
    have hlk := Lib.hid (fun w' => lacks_any s b (by omega) h5 (by omega) w')
    rw [hn] at hlk
    by_cases hq : n < 0
    · have hR := Lib.hid (show lackV (bts s) b = 0 ∧ lackE (bts s) b = 12 by unfold lackV lackE; rw [hk, hn]; exact ⟨if_neg (by omega), by simp [hq]⟩)
      clear hk hn h1 h5
      rw [hR.out.1, hR.out.2]
      go_enter Tryd.func16, Tryd.ntmps16
      go_wp2_with (first
        | (go_at_call 47; (with_reducible refine (opened_any _ _ _).mono ?_); rintro e w1 ⟨rfl, hb1⟩; rw [hkH.out])
        | (go_at_call 48; (with_reducible refine (hlk.out _).mono ?_); rintro e w2 ⟨rfl, hb2⟩; replace hb2 := hb1.trans (hb2.mono hb1.size)))
      go_ret2
      exact ⟨rfl, hb2⟩
    · have hR := Lib.hid (show lackV (bts s) b = n ∧ lackE (bts s) b = 0 by unfold lackV lackE; rw [hk, hn]; exact ⟨if_pos ⟨rfl, by omega⟩, by simp [hq]⟩)
      clear hk hn h1 h5
      rw [hR.out.1, hR.out.2]
      go_enter Tryd.func16, Tryd.ntmps16
      go_wp2_with (first
        | (go_at_call 47; (with_reducible refine (opened_any _ _ _).mono ?_); rintro e w1 ⟨rfl, hb1⟩; rw [hkH.out])
        | (go_at_call 48; (with_reducible refine (hlk.out _).mono ?_); rintro e w2 ⟨rfl, hb2⟩; replace hb2 := hb1.trans (hb2.mono hb1.size)))
      go_ret2
      exact ⟨rfl, hb2⟩
  · have hR := Lib.hid (show lackV (bts s) b = 0 ∧ lackE (bts s) b = k by unfold lackV lackE; rw [hk]; simp [h0])
    have hk0 : (k != 0) = true := by simp [h0]
    clear hk
    rw [hR.out.1, hR.out.2]
    go_enter Tryd.func16, Tryd.ntmps16
    go_wp2_with (first
      | (go_at_call 47; (with_reducible refine (opened_any _ _ _).mono ?_); rintro e w1 ⟨rfl, hb1⟩; rw [hkH.out]))
    go_ret2
    exact ⟨rfl, hb1⟩
set_option maxRecDepth 100000 in
set_option maxHeartbeats 4000000 in
theorem Needs_any (s : ByteArray) (w : World) : Calls Tryd.prog 18 #[.string s] w fun e w' => e = .returned (.tuple #[.int .i64 (needV (bts s)), .int .i64 (chkT (bts s))]) ∧ Below w.heap.size w w' := by
  obtain ⟨k, hk⟩ : ∃ k, chkT (bts s) = k := ⟨_, rfl⟩
  have hkH := Lib.hid hk
  by_cases h0 : k = 0
  · subst h0
    obtain ⟨h4, h5⟩ := chkT_zero hk
    rw [bts_len] at h4
    obtain ⟨P, hP⟩ : ∃ P, stepsT 0 (bts s) = P := ⟨_, rfl⟩
    have hst := Lib.hid (fun w' => steps_any s 0 (by omega) h5 (by omega) w')
    have hR := Lib.hid (show needV (bts s) = -(P.foldl min 0) by unfold needV; rw [if_pos hk, hP])
    have hbd := Lib.hid (show ∀ x ∈ P, -16 ≤ x ∧ x ≤ 16 by intro x hx; rw [← hP] at hx; have := steps_bound hx; rw [bts_len] at this; omega)
    rw [hP] at hst
    rw [hk]
    have hPl : P.length ≤ 16 := by rw [← hP, steps_len, bts_len]; omega
    clear hk h5 hP
    go_enter Tryd.func18, Tryd.ntmps18
    go_wp2_with (first
      | (go_at_call 21; (with_reducible refine (Check_any _ _).mono ?_); rintro e w1 ⟨rfl, hb1⟩; rw [hkH.out])
      | (go_at_call 49; (with_reducible refine (hst.out _).mono ?_); rintro e w2 ⟨v, rfl, ho, hb2⟩
         obtain ⟨A, c, rfl, hr⟩ := ho.reads
         replace hb2 := hb1.trans (hb2.mono hb1.size)))
    go_loopw [5, 16] (fun o v wr => ∃ (i : Nat) (m : Int), i ≤ P.length ∧ v = .int .i64 i ∧ o = .int .i64 m ∧ Hid (m = (P.take i).foldl min 0) ∧ -16 ≤ m ∧ m ≤ 0 ∧ w2 = wr) (fun _ v _ => P.length - (intOf v).toNat)
    case atStart => exact ⟨0, 0, by omega, rfl, rfl, Lib.hid rfl, by omega, by omega, rfl⟩
    case round =>
      obtain ⟨i, m, hi, rfl, rfl, hm, hm1, hm2, rfl⟩ := hrel
      by_cases hlt : i < P.length
      · have hlti : (i : Int) < P.length := by omega
        obtain ⟨ad, u, rfl, hadb, hu, hcell⟩ := Reads.at_ hr hlt
        obtain ⟨x, hx⟩ : ∃ x, P[i]? = some x := ⟨_, List.getElem?_eq_getElem hlt⟩
        obtain rfl : u = .int .i64 x := by
          rw [ints, List.getElem?_map, hx] at hu
          simpa using hu.symm
        have hxb := hbd.out x (List.mem_of_getElem? hx)
        obtain ⟨m', hm'⟩ : ∃ m', min m x = m' := ⟨_, rfl⟩
        have hN := Lib.hid (show m' = (P.take (i + 1)).foldl min 0 by rw [List.take_add_one, hx, Option.toList_some, List.foldl_append, ← hm.out, ← hm']; rfl)
        have hm3 : -16 ≤ m' ∧ m' ≤ 0 := by rw [← hm']; omega
        clear hu hx
        go_wp2_with (fail)
        go_roundw
        case rel => exact ⟨i + 1, m', by omega, by go_num, rfl, hN, hm3.1, hm3.2, by first | rfl | trivial⟩
        case measure => simp only [intOf]; omega
      · have hlti : ¬ (i : Int) < P.length := by omega
        have hmR := Lib.hid (show -m = needV (bts s) by rw [hR.out, hm.out, List.take_of_length_le (by omega)])
        go_wp2_with (fail)
        go_ret2
        exact ⟨by rw [← hmR.out]; rfl, hb2⟩
  · have hR := Lib.hid (show needV (bts s) = 0 by unfold needV; rw [hk]; simp [h0])
    have hk0 : (k != 0) = true := by simp [h0]
    rw [hk]
    clear hk
    rw [hR.out]
    go_enter Tryd.func18, Tryd.ntmps18
    go_wp2_with (first
      | (go_at_call 21; (with_reducible refine (Check_any _ _).mono ?_); rintro e w1 ⟨rfl, hb1⟩; rw [hkH.out]))
    go_ret2
    exact ⟨rfl, hb1⟩
end Go.Proofs.YtfcfhiekkpflcaaDoor
