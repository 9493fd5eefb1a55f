/- slices.ContainsFunc at Grow's function value. -/
import Derived.Test.YtdaaiockkbolbaaGrowK
import Derived.Test.YtdaaiockkbolbaaEach
namespace Go.Proofs.Ytdaaiockkbolbaa
open Go.RowKit
set_option maxRecDepth 100000 in
set_option maxHeartbeats 4000000 in
theorem growF_any (g : Nat) (A : Option Addr) (n c : Nat) (t : ByteArray) (w : World) (hG : Blk w g 38 #[.slice A n c]) (h4 : lettersS (bts t) 4 = true) (hn1 : 1 ≤ n) (hn4 : n ≤ 4) :
    Calls Try.prog 76 #[.string t, .pointer (some ⟨g, 0, none⟩)] w fun e w' => e = .returned (.bool !(lettersS (bts t) (n : Int))) ∧ Below w.heap.size w w' := by
  have hho := high_over h4 (n := (n : Int)) (by omega) (by omega)
  have hH := Lib.hid (show highS (bts t) = (highN (bts t) : Nat) by rw [highS, if_pos h4])
  obtain ⟨k, hkk⟩ : ∃ k, highN (bts t) = k := ⟨_, rfl⟩
  rw [hkk] at hho
  have hkH := Lib.hid hkk
  have cg := hG.cell 0
  have hglt := hG.lt
  have hq : (decide (n < k)) = !(lettersS (bts t) (n : Int)) := by
    rw [hho, Bool.eq_iff_iff]; simp
  have hR := Lib.hid hq
  clear hkk hho h4 hq
  go_enter Try.func76, Try.ntmps76
  go_wp2_with (fail)
  go_region_held3 (fun w' => w'.cell? ⟨g, 0, none⟩ = some (.slice A n c))
    (first | assumption | exact cg)
    (first | (go_at_call 52; refine (highest_any t _).mono ?_; rintro e w3 ⟨rfl, hb3⟩; rw [hH.out, hkH.out]
              have hS3 : w3.cell? ⟨g, 0, none⟩ = some (.slice A n c) := (hb3.cell (p := ⟨g, 0, none⟩) hglt).trans cg))
  go_wp2_with (fail)
  go_ret
  exact ⟨by rw [← hR.out]; rfl, (below_drewN (Below.refl _ w) 1).trans hb3⟩
/-- the first word that has other letters -/
def badI (n : Int) : List ByteArray → Nat → Int
  | [], _ => -1
  | t :: l, i => if lettersS (bts t) n then badI n l (i + 1) else i
theorem badI_step {n : Int} {ws : List ByteArray} {i : Nat} {t : ByteArray} (h : ws[i]? = some t) : badI n (ws.drop i) i = if lettersS (bts t) n then badI n (ws.drop (i + 1)) (i + 1) else i := by
  obtain ⟨hi, rfl⟩ := List.getElem?_eq_some_iff.1 h
  rw [List.drop_eq_getElem_cons hi, badI]
theorem badI_all {n : Int} {ws : List ByteArray} : ∀ i, decide (0 ≤ badI n ws i) = !(ws.all fun t => lettersS (bts t) n) := by
  induction ws with
  | nil => intro i; rfl
  | cons t l ih =>
    intro i
    rw [badI, List.all_cons]
    cases lettersS (bts t) n with
    | true => simpa using ih (i + 1)
    | false => simp
set_option maxRecDepth 100000 in
set_option maxHeartbeats 4000000 in
theorem indexFunc_any (g : Nat) (A : Option Addr) (n c : Nat) (ws : List ByteArray) (w : World) (B : Nat) (hB : B ≤ w.heap.size) (hr : RStrs w B A n ws) (hG : Blk w g 38 #[.slice A n c]) (h4 : ∀ t ∈ ws, lettersS (bts t) 4 = true) (hn1 : 1 ≤ n) (hn4 : n ≤ 4) :
    Calls Try.prog 87 #[.slice A n c, .func (.func 76) #[] #[.pointer (some ⟨g, 0, none⟩)]] w fun e w' => e = .returned (.int .i64 (badI n ws 0)) ∧ Below w.heap.size w w' := by
  have eg := enters_of Try.func76 (by kernel_rfl) rfl
  have h4H := Lib.hid h4
  obtain ⟨R, hR⟩ : ∃ R, badI (n : Int) ws 0 = R := ⟨_, rfl⟩
  have hRH := Lib.hid (show badI (n : Int) (ws.drop 0) 0 = R from hR)
  rw [hR]
  have hlen := Lib.hid hr.len
  clear h4 hR
  go_enter Try.func87, Try.ntmps87
  go_wp2_with (fail)
  go_loopw [8] (fun v wr => ∃ i : Nat, i ≤ n ∧ v = .int .i64 i ∧ Hid (badI (n : Int) (ws.drop i) i = R) ∧ Below w.heap.size w wr) (fun v _ => n - (intOf v).toNat)
  case atStart => exact ⟨0, by omega, rfl, hRH, Below.refl _ _⟩
  case round =>
    obtain ⟨i, hin, rfl, hL, hbe⟩ := hrel
    by_cases hlt : i < n
    · have hlti : (i : Int) < n := by omega
      obtain ⟨ad, t, rfl, hadb, hcell, hwt⟩ := (hr.later hB hbe).at_ hlt
      have hst := badI_step (n := (n : Int)) hwt.out
      rw [hL.out] at hst
      have hGr := hG.callee hbe
      have hgf := Lib.hid (growF_any g (some ad) n c t wr hGr (h4H.out t (List.mem_of_getElem? hwt.out)) hn1 hn4)
      cases hq : lettersS (bts t) (n : Int) with
      | true =>
        have hN := Lib.hid (show badI (n : Int) (ws.drop (i + 1)) (i + 1) = R by rw [hst, if_pos hq])
        have hqH := Lib.hid hq
        clear hst hq
        go_wp2_with (first
          | (with_reducible show Calls _ _ _ _ _; refine hgf.out.mono ?_; rintro e w1 ⟨rfl, hb1⟩; rw [hqH.out]))
        go_roundw
        case rel => exact ⟨i + 1, by omega, by go_num, hN, hbe.trans (hb1.mono hbe.size)⟩
        case measure => simp only [intOf]; omega
      | false =>
        have hN := Lib.hid (show R = (i : Int) by rw [hst, if_neg (by rw [hq]; decide)])
        have hqH := Lib.hid hq
        clear hst hq
        go_wp2_with (first
          | (with_reducible show Calls _ _ _ _ _; refine hgf.out.mono ?_; rintro e w1 ⟨rfl, hb1⟩; rw [hqH.out]))
        go_ret
        exact ⟨by rw [hN.out]; rfl, hbe.trans (hb1.mono hbe.size)⟩
    · have hlti : ¬ (i : Int) < n := by omega
      have hN := Lib.hid (show R = -1 by rw [← hL.out, List.drop_of_length_le (by rw [hlen.out]; omega)]; rfl)
      go_wp2_with (fail)
      go_ret
      exact ⟨by rw [hN.out]; rfl, hbe⟩
set_option maxRecDepth 100000 in
set_option maxHeartbeats 4000000 in
theorem containsFunc_any (g : Nat) (A : Option Addr) (n c : Nat) (ws : List ByteArray) (w : World) (B : Nat) (hB : B ≤ w.heap.size) (hr : RStrs w B A n ws) (hG : Blk w g 38 #[.slice A n c]) (h4 : ∀ t ∈ ws, lettersS (bts t) 4 = true) (hn1 : 1 ≤ n) (hn4 : n ≤ 4) :
    Calls Try.prog 75 #[.slice A n c, .func (.func 76) #[] #[.pointer (some ⟨g, 0, none⟩)]] w fun e w' => e = .returned (.bool !(ws.all fun t => lettersS (bts t) (n : Int))) ∧ Below w.heap.size w w' := by
  have hif := Lib.hid (indexFunc_any g A n c ws w B hB hr hG h4 hn1 hn4)
  have hR := Lib.hid (@badI_all (n : Int) ws 0)
  obtain ⟨R, hRe⟩ : ∃ R, badI (n : Int) ws 0 = R := ⟨_, rfl⟩
  rw [hRe] at hif hR
  clear h4 hRe
  go_enter Try.func75, Try.ntmps75
  go_wp2_with (first
    | (go_at_call 87; refine hif.out.mono ?_; rintro e w1 ⟨rfl, hb1⟩))
  go_ret
  exact ⟨by rw [← hR.out]; rfl, hb1⟩
end Go.Proofs.Ytdaaiockkbolbaa
