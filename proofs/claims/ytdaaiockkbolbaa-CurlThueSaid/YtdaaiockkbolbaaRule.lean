/- Rules: a slice of words that reads as a list; their errors. -/
import Derived.Test.YtdaaiockkbolbaaBegun
namespace Go.Proofs.Ytdaaiockkbolbaa
open Go.RowKit
def strsV (ws : List ByteArray) : List Value := ws.map Value.string
theorem strsV_length (ws : List ByteArray) : (strsV ws).length = ws.length := by simp [strsV]
theorem strsV_get (ws : List ByteArray) (k : Nat) (h : k < ws.length) : (strsV ws)[k]? = some (.string ws[k]) := by
  simp [strsV, List.getElem?_eq_getElem h]
/-- a slice of strings that reads as a list -/
def RStrs (w : World) (B : Nat) (A : Option Addr) (n : Nat) (ws : List ByteArray) : Prop := Reads w B 1 A n (strsV ws)
section
variable {w w' : World} {B B' n : Nat} {A : Option Addr} {ws : List ByteArray}
theorem RStrs.none_ : RStrs w B A 0 [] := Reads.none_
theorem RStrs.below (h : RStrs w B A n ws) (hb : Below B w w') : RStrs w' B A n ws := Reads.below h hb
theorem RStrs.more (h : RStrs w B A n ws) (hB : B ≤ B') : RStrs w B' A n ws := Reads.more h hB
theorem RStrs.later (h : RStrs w B A n ws) (hB : B ≤ w.heap.size) (hb : Below w.heap.size w w') : RStrs w' B A n ws := Reads.below h (hb.mono hB)
theorem RStrs.len (h : RStrs w B A n ws) : ws.length = n := by
  have := h.1; simpa [strsV_length] using this
theorem RStrs.at_ {k : Nat} (h : RStrs w B A n ws) (hk : k < n) :
    ∃ ad s, A = some ad ∧ ad.block < B ∧ w.cell? (ad.add k) = some (.string s) ∧ Hid (ws[k]? = some s) := by
  obtain ⟨ad, u, e, hb, hx, hc⟩ := Reads.at_ h hk
  have hl : k < ws.length := by have := h.len; omega
  refine ⟨ad, ws[k], e, hb, ?_, List.getElem?_eq_getElem hl⟩
  rw [strsV_get ws k hl] at hx
  rw [hc, ← hx]
theorem RStrs.keep (h : RStrs w B A n ws) (hk : ∀ p : Addr, p.block < B → w'.cell? p = w.cell? p) : RStrs w' B A n ws := Reads.keep h hk
end
/-- the errors of the words of a rule -/
def ruleL (k : Nat) : List ByteArray → Int
  | [] => 0
  | w :: l => if 1 ≤ w.size ∧ w.size ≤ 13 ∧ w.size = k then (if lettersS (bts w) 4 then ruleL k l else 10) else 5
def ruleE (ws : List ByteArray) : Int := if ws.length = 0 then 4 else if 4 < ws.length then 3 else ruleL (ws.headD ⟨#[]⟩).size ws
theorem ruleL_step {k i : Nat} {ws : List ByteArray} {s : ByteArray} (h : ws[i]? = some s) : ruleL k (ws.drop i) = if 1 ≤ s.size ∧ s.size ≤ 13 ∧ s.size = k then (if lettersS (bts s) 4 then ruleL k (ws.drop (i + 1)) else 10) else 5 := by
  obtain ⟨hi, rfl⟩ := List.getElem?_eq_some_iff.1 h
  rw [List.drop_eq_getElem_cons hi, ruleL]
theorem ruleL_end {k i : Nat} {ws : List ByteArray} (h : ws.length ≤ i) : ruleL k (ws.drop i) = 0 := by
  rw [List.drop_of_length_le h]; rfl
theorem ruleL_zero {k : Nat} {ws : List ByteArray} (h : ruleL k ws = 0) : ∀ s ∈ ws, 1 ≤ s.size ∧ s.size ≤ 13 ∧ s.size = k ∧ lettersS (bts s) 4 = true := by
  induction ws with
  | nil => intro s hs; cases hs
  | cons a l ih =>
    intro s hs
    rw [ruleL] at h
    split at h
    · rename_i h1
      split at h
      · rename_i h2
        rcases List.mem_cons.1 hs with rfl | hs
        · exact ⟨h1.1, h1.2.1, h1.2.2, h2⟩
        · exact ih h s hs
      · omega
    · omega
theorem ruleE_zero {ws : List ByteArray} (h : ruleE ws = 0) : 1 ≤ ws.length ∧ ws.length ≤ 4 ∧ 1 ≤ (ws.headD ⟨#[]⟩).size ∧ (ws.headD ⟨#[]⟩).size ≤ 13 ∧ ∀ s ∈ ws, s.size = (ws.headD ⟨#[]⟩).size ∧ lettersS (bts s) 4 = true := by
  unfold ruleE at h
  split at h
  · omega
  · split at h
    · omega
    · rename_i h1 h2
      have hz := ruleL_zero h
      cases ws with
      | nil => simp at h1
      | cons a l =>
        obtain ⟨q1, q2, q3, q4⟩ := hz a (by simp)
        exact ⟨by simp, by omega, q1, q2, fun s hs => ⟨(hz s hs).2.2.1, (hz s hs).2.2.2⟩⟩
theorem add_zero_ (a : Addr) : a.add 0 = a := by simp [Addr.add]
/-- the first word, where a walk asks for it -/
theorem RStrs.first {w : World} {B n : Nat} {A : Option Addr} {ws : List ByteArray} (h : RStrs w B A n ws) (hn : 0 < n) :
    ∃ ad s, A = some ad ∧ ad.block < B ∧ w.cell? ad = some (.string s) ∧ Hid (ws.headD ⟨#[]⟩ = s) := by
  obtain ⟨ad, s, e, hab, hcell, hs⟩ := h.at_ hn
  refine ⟨ad, s, e, hab, by rw [add_zero_] at hcell; exact hcell, Lib.hid ?_⟩
  cases ws with
  | nil => cases hs.out
  | cons a l => simpa using hs.out
set_option maxHeartbeats 1000000 in
theorem size_any (A : Option Addr) (n c : Nat) (ws : List ByteArray) (w : World) (B : Nat) (hB : B ≤ w.heap.size) (hr : RStrs w B A n ws) (hn : 0 < n) :
    Calls Try.prog 74 #[.agg #[.slice A n c]] w fun e w' => e = .returned (.int .i64 ((ws.headD ⟨#[]⟩).size : Nat)) ∧ Below w.heap.size w w' := by
  obtain ⟨ad, s, rfl, hab, hcell, hR⟩ := hr.first hn
  have hni : (0 : Int) < n := by omega
  have hcell2 := (((Below.refl w.heap.size w).alloc (Nat.le_refl _) (.cells #[.slice (some ad) n c] 38)).cell (p := ad) (by omega)).trans hcell
  go_enter Try.func74, Try.ntmps74
  go_wp2_with (fail)
  go_ret
  exact ⟨by rw [hR.out]; rfl, (Below.refl _ _).alloc (Nat.le_refl _) _⟩
set_option maxRecDepth 100000 in
set_option maxHeartbeats 4000000 in
theorem CheckRule_any (A : Option Addr) (n c : Nat) (ws : List ByteArray) (w : World) (B : Nat) (hB : B ≤ w.heap.size) (hr : RStrs w B A n ws) :
    Calls Try.prog 34 #[.agg #[.slice A n c]] w fun e w' => e = .returned (.int .i64 (ruleE ws)) ∧ Below w.heap.size w w' := by
  have hlen := hr.len
  by_cases h0 : n = 0
  · subst h0
    have hR := Lib.hid (show ruleE ws = 4 by rw [ruleE, if_pos hlen])
    go_enter Try.func34, Try.ntmps34
    go_wp2_with (fail)
    go_ret
    exact ⟨by rw [hR.out]; rfl, (Below.refl _ _).alloc (Nat.le_refl _) _⟩
  · have h0i : ((n : Int) == 0) = false := by simp; omega
    by_cases h4 : 4 < n
    · have hR := Lib.hid (show ruleE ws = 3 by rw [ruleE, if_neg (by omega), if_pos (by omega)])
      have h4i : (4 : Int) < n := by omega
      go_enter Try.func34, Try.ntmps34
      go_wp2_with (fail)
      go_ret
      exact ⟨by rw [hR.out]; rfl, (Below.refl _ _).alloc (Nat.le_refl _) _⟩
    · have h4i : ¬ (4 : Int) < n := by omega
      obtain ⟨R, hR⟩ : ∃ R, ruleE ws = R := ⟨_, rfl⟩
      rw [hR]
      obtain ⟨ad, s0, rfl, hab, hcell0, hs0⟩ := hr.first (by omega)
      obtain ⟨k0, hk0⟩ : ∃ k0, s0.size = k0 := ⟨_, rfl⟩
      have hs0s : (Value.string s0) = Value.string s0 := rfl
      have hRL := Lib.hid (show ruleL k0 ws = R by rw [← hR, ruleE, if_neg (by omega), if_neg (by omega), hs0.out, hk0])
      clear hR
      have hni : (0 : Int) < n := by omega
      go_enter Try.func34, Try.ntmps34
      go_wp2_with (first
        | (with_reducible show wpList _ _ _ (⟨_, .box 38 _, _, _, _, _⟩ :: _) _ _
           refine wpList_box_blk rfl 38 _ rfl #[.slice (some ad) n c] rfl ?_
           intro w1 g hG hgr hge
           have hb1 : Below w.heap.size w w1 := below_none (Below.refl _ _) hgr (Nat.le_refl _)
           have cg := hG.cell 0
           have hr1 := hr.later hB hb1
           have hB1 : B ≤ w1.heap.size := Nat.le_trans hB hb1.size
           have hc1 := (hb1.cell (p := ad) (by omega)).trans hcell0))
      go_loopw [18] (fun v wr => ∃ i : Nat, i ≤ n ∧ v = .int .i64 i ∧ Hid (ruleL k0 (ws.drop i) = R) ∧ Below w1.heap.size w1 wr) (fun v _ => n - (intOf v).toNat)
      case atStart => exact ⟨0, by omega, rfl, Lib.hid hRL.out, Below.refl _ _⟩
      case round =>
        obtain ⟨i, hin, rfl, hL, hbe⟩ := hrel
        have cgr := (hbe.cell (p := ⟨g, 0, none⟩) hG.lt).trans cg
        have hcr := (hbe.cell (p := ad) (by omega)).trans hc1
        have hbw := hb1.trans (hbe.mono hb1.size)
        by_cases hlt : i < n
        · obtain ⟨ad', s, had, _, hcs, hws⟩ := (hr1.later hB1 hbe).at_ hlt
          obtain rfl : ad = ad' := by simpa using had
          have hlti : (i : Int) < n := by omega
          have hst := ruleL_step (k := k0) hws.out
          rw [hL.out] at hst
          obtain ⟨k, hk⟩ : ∃ k, s.size = k := ⟨_, rfl⟩
          by_cases hgd : 1 ≤ k ∧ k ≤ 13
          · have hw1 : withinB k 1 13 = true := by simp [withinB]; omega
            by_cases hkk : k = k0
            · have hkb : ((k : Int) != k0) = false := by simp; omega
              cases hl : lettersS (bts s) 4 with
              | true =>
                have hN := Lib.hid (show ruleL k0 (ws.drop (i + 1)) = R by rw [hst, if_pos ⟨by omega, by omega, by omega⟩, if_pos hl])
                obtain ⟨h, hh⟩ : ∃ h, highN (bts s) = h := ⟨_, rfl⟩
                have hh0 : ¬ (h : Int) < 0 := by omega
                have hhi := Lib.hid (show highS (bts s) = (h : Nat) by rw [highS, if_pos hl, hh])
                have hlH := Lib.hid hl
                clear hst hl hkk
                go_wp2_with (first
                  | (go_at_call 61; refine (within_b _ _ _ _).mono ?_; rintro e w2 ⟨rfl, rfl⟩; first | rw [hw1] | rw [hk, hw1])
                  | (go_at_call 52; refine (highest_any s _).mono ?_; rintro e w2 ⟨rfl, hb2⟩; rw [hhi.out]))
                go_roundw
                case rel => exact ⟨i + 1, by omega, by go_num, hN, hbe.trans (hb2.mono hbe.size)⟩
                case measure => simp only [intOf]; omega
              | false =>
                have hN := Lib.hid (show R = 10 by rw [hst, if_pos ⟨by omega, by omega, by omega⟩, if_neg (by rw [hl]; decide)])
                have hhi := Lib.hid (show highS (bts s) = -1 by rw [highS, if_neg (by rw [hl]; decide)])
                have hlH := Lib.hid hl
                clear hst hl hkk
                go_wp2_with (first
                  | (go_at_call 61; refine (within_b _ _ _ _).mono ?_; rintro e w2 ⟨rfl, rfl⟩; first | rw [hw1] | rw [hk, hw1])
                  | (go_at_call 52; refine (highest_any s _).mono ?_; rintro e w2 ⟨rfl, hb2⟩; rw [hhi.out]))
                go_ret
                exact ⟨by rw [hN.out]; rfl, hbw.trans (hb2.mono hbw.size)⟩
            · have hkb : ((k : Int) != k0) = true := by simp; omega
              have hN := Lib.hid (show R = 5 by rw [hst, if_neg (fun h => hkk (by omega))])
              clear hst
              go_wp2_with (first
                | (go_at_call 61; refine (within_b _ _ _ _).mono ?_; rintro e w2 ⟨rfl, rfl⟩; first | rw [hw1] | rw [hk, hw1]))
              go_ret
              exact ⟨by rw [hN.out]; rfl, hbw⟩
          · have hw1 : withinB k 1 13 = false := by rw [Bool.eq_false_iff]; intro h; simp [withinB] at h; omega
            have hN := Lib.hid (show R = 5 by rw [hst, if_neg (fun h => hgd (by omega))])
            clear hst
            go_wp2_with (first
              | (go_at_call 61; refine (within_b _ _ _ _).mono ?_; rintro e w2 ⟨rfl, rfl⟩; first | rw [hw1] | rw [hk, hw1]))
            go_ret
            exact ⟨by rw [hN.out]; rfl, hbw⟩
        · have hN := Lib.hid (show R = 0 by rw [← hL.out, ruleL_end (by omega)])
          have hlti : ¬ (i : Int) < n := by omega
          go_wp2_with (fail)
          go_ret
          exact ⟨by rw [hN.out]; rfl, hbw⟩
set_option maxRecDepth 100000 in
set_option maxHeartbeats 4000000 in
theorem refCheckRule_any (A : Option Addr) (n c : Nat) (ws : List ByteArray) (w : World) (B : Nat) (hB : B ≤ w.heap.size) (hr : RStrs w B A n ws) :
    Calls Try.prog 35 #[.agg #[.slice A n c]] w fun e w' => e = .returned (.int .i64 (ruleE ws)) ∧ Below w.heap.size w w' := by
  have hlen := hr.len
  by_cases h0 : n = 0
  · subst h0
    have hR := Lib.hid (show ruleE ws = 4 by rw [ruleE, if_pos hlen])
    go_enter Try.func35, Try.ntmps35
    go_wp2_with (fail)
    go_ret
    exact ⟨by rw [hR.out]; rfl, (Below.refl _ _).alloc (Nat.le_refl _) _⟩
  · have h0i : ((n : Int) == 0) = false := by simp; omega
    by_cases h4 : 4 < n
    · have hR := Lib.hid (show ruleE ws = 3 by rw [ruleE, if_neg (by omega), if_pos (by omega)])
      have h4i : (4 : Int) < n := by omega
      go_enter Try.func35, Try.ntmps35
      go_wp2_with (fail)
      go_ret
      exact ⟨by rw [hR.out]; rfl, (Below.refl _ _).alloc (Nat.le_refl _) _⟩
    · have h4i : ¬ (4 : Int) < n := by omega
      obtain ⟨R, hR⟩ : ∃ R, ruleE ws = R := ⟨_, rfl⟩
      rw [hR]
      obtain ⟨ad, s0, rfl, hab, hcell0, hs0⟩ := hr.first (by omega)
      obtain ⟨k0, hk0⟩ : ∃ k0, s0.size = k0 := ⟨_, rfl⟩
      have hs0s : (Value.string s0) = Value.string s0 := rfl
      have hRL := Lib.hid (show ruleL k0 ws = R by rw [← hR, ruleE, if_neg (by omega), if_neg (by omega), hs0.out, hk0])
      clear hR
      have hni : (0 : Int) < n := by omega
      go_enter Try.func35, Try.ntmps35
      go_wp2_with (first
        | (with_reducible show wpList _ _ _ (⟨_, .box 40 _, _, _, _, _⟩ :: _) _ _
           refine wpList_box_blk rfl 40 _ rfl #[.slice (some ad) n c] rfl ?_
           intro w1 g hG hgr hge
           have hb1 : Below w.heap.size w w1 := below_none (Below.refl _ _) hgr (Nat.le_refl _)
           have cg := hG.cell 0
           have hr1 := hr.later hB hb1
           have hB1 : B ≤ w1.heap.size := Nat.le_trans hB hb1.size
           have hc1 := (hb1.cell (p := ad) (by omega)).trans hcell0))
      go_loopw [3] (fun v wr => ∃ i : Nat, i ≤ n ∧ v = .int .i64 i ∧ Hid (ruleL k0 (ws.drop i) = R) ∧ Below w1.heap.size w1 wr) (fun v _ => n - (intOf v).toNat)
      case atStart => exact ⟨0, by omega, rfl, Lib.hid hRL.out, Below.refl _ _⟩
      case round =>
        obtain ⟨i, hin, rfl, hL, hbe⟩ := hrel
        have cgr := (hbe.cell (p := ⟨g, 0, none⟩) hG.lt).trans cg
        have hcr := (hbe.cell (p := ad) (by omega)).trans hc1
        have hbw := hb1.trans (hbe.mono hb1.size)
        by_cases hlt : i < n
        · obtain ⟨ad', s, had, _, hcs, hws⟩ := (hr1.later hB1 hbe).at_ hlt
          obtain rfl : ad = ad' := by simpa using had
          have hlti : (i : Int) < n := by omega
          have hst := ruleL_step (k := k0) hws.out
          rw [hL.out] at hst
          obtain ⟨k, hk⟩ : ∃ k, s.size = k := ⟨_, rfl⟩
          by_cases hgd : 1 ≤ k ∧ k ≤ 13
          · have hw1 : withinB k 1 13 = true := by simp [withinB]; omega
            by_cases hkk : k = k0
            · have hkb : ((k : Int) != k0) = false := by simp; omega
              cases hl : lettersS (bts s) 4 with
              | true =>
                have hN := Lib.hid (show ruleL k0 (ws.drop (i + 1)) = R by rw [hst, if_pos ⟨by omega, by omega, by omega⟩, if_pos hl])
                skip
                have hlH := Lib.hid hl
                clear hst hl hkk
                go_wp2_with (first
                  | (go_at_call 63; refine (in_any _ _ _ _).mono ?_; rintro e w2 ⟨rfl, rfl⟩; first | rw [hw1] | rw [hk, hw1])
                  | (go_at_call 53; refine (written_any s (by omega) 4 (by decide) (by decide) _).mono ?_; rintro e w2 ⟨rfl, hb2⟩; rw [hlH.out]))
                go_roundw
                case rel => exact ⟨i + 1, by omega, by go_num, hN, hbe.trans (hb2.mono hbe.size)⟩
                case measure => simp only [intOf]; omega
              | false =>
                have hN := Lib.hid (show R = 10 by rw [hst, if_pos ⟨by omega, by omega, by omega⟩, if_neg (by rw [hl]; decide)])
                skip
                have hlH := Lib.hid hl
                clear hst hl hkk
                go_wp2_with (first
                  | (go_at_call 63; refine (in_any _ _ _ _).mono ?_; rintro e w2 ⟨rfl, rfl⟩; first | rw [hw1] | rw [hk, hw1])
                  | (go_at_call 53; refine (written_any s (by omega) 4 (by decide) (by decide) _).mono ?_; rintro e w2 ⟨rfl, hb2⟩; rw [hlH.out]))
                go_ret
                exact ⟨by rw [hN.out]; rfl, hbw.trans (hb2.mono hbw.size)⟩
            · have hkb : ((k : Int) != k0) = true := by simp; omega
              have hN := Lib.hid (show R = 5 by rw [hst, if_neg (fun h => hkk (by omega))])
              clear hst
              go_wp2_with (first
                | (go_at_call 63; refine (in_any _ _ _ _).mono ?_; rintro e w2 ⟨rfl, rfl⟩; first | rw [hw1] | rw [hk, hw1]))
              go_ret
              exact ⟨by rw [hN.out]; rfl, hbw⟩
          · have hw1 : withinB k 1 13 = false := by rw [Bool.eq_false_iff]; intro h; simp [withinB] at h; omega
            have hN := Lib.hid (show R = 5 by rw [hst, if_neg (fun h => hgd (by omega))])
            clear hst
            go_wp2_with (first
              | (go_at_call 63; refine (in_any _ _ _ _).mono ?_; rintro e w2 ⟨rfl, rfl⟩; first | rw [hw1] | rw [hk, hw1]))
            go_ret
            exact ⟨by rw [hN.out]; rfl, hbw⟩
        · have hN := Lib.hid (show R = 0 by rw [← hL.out, ruleL_end (by omega)])
          have hlti : ¬ (i : Int) < n := by omega
          go_wp2_with (fail)
          go_ret
          exact ⟨by rw [hN.out]; rfl, hbw⟩
end Go.Proofs.Ytdaaiockkbolbaa
