/- asked, fits and Replace; the reference's ruled, fits, Replace. (Printed by genfits.py.) -/
import Derived.Test.YtdaaiockkbolbaaPut
import Derived.Deep.RegionHeld3
namespace Go.Proofs.Ytdaaiockkbolbaa
open Go.RowKit
/-- a rule that came in as an argument, boxed in block g -/
structure Rk (T : TypeId) (w0 w : World) (g : Nat) (A : Option Addr) (n c : Nat) (ws : List ByteArray) (B : Nat) : Prop where
  be : Below w0.heap.size w0 w
  rs : RStrs w B A n ws
  bk : Blk w g T #[.slice A n c]
  bl : B ≤ w0.heap.size
section
variable {T : TypeId} {w0 w w' : World} {g : Nat} {A : Option Addr} {n c : Nat} {ws : List ByteArray} {B : Nat}
theorem Rk.box (hB : B ≤ w0.heap.size) (hr : RStrs w0 B A n ws) (hG : Blk w g T #[.slice A n c]) (hgr : w0.grownBy w none) : Rk T w0 w g A n c ws B :=
  ⟨below_none (Below.refl _ _) hgr (Nat.le_refl _), hr.later hB (below_none (Below.refl _ _) hgr (Nat.le_refl _)), hG, hB⟩
theorem Rk.b (h : Rk T w0 w g A n c ws B) : B ≤ w.heap.size := Nat.le_trans h.bl h.be.size
theorem Rk.call (h : Rk T w0 w g A n c ws B) (hb : Below w.heap.size w w') : Rk T w0 w' g A n c ws B :=
  ⟨h.be.trans (hb.mono h.be.size), h.rs.later h.b hb, h.bk.callee hb, h.bl⟩
theorem Rk.drewN (h : Rk T w0 w g A n c ws B) (k : Nat) : Rk T w0 (w.drewN k) g A n c ws B := ⟨below_drewN h.be k, h.rs, h.bk, h.bl⟩
theorem Rk.drew (h : Rk T w0 w g A n c ws B) : Rk T w0 w.drew g A n c ws B := h.drewN 1
theorem Rk.cell (h : Rk T w0 w g A n c ws B) : w.cell? ⟨g, 0, none⟩ = some (.slice A n c) := h.bk.cell 0
end
theorem info_oneP (v : Value) : (Try.prog.info? 38).map (·.size) = some (#[v] : Array Value).size := by
  show _ = some 1; kernel_rfl
theorem info_oneR (v : Value) : (Try.prog.info? 40).map (·.size) = some (#[v] : Array Value).size := by
  show _ = some 1; kernel_rfl
def askE (ws : List ByteArray) (x : Word) : Int := if ruleE ws ≠ 0 then ruleE ws else chkW x
def fitE (ws : List ByteArray) (x : Word) : Int := if askE ws x ≠ 0 then askE ws x else if lettersS x ws.length = false then 2 else if 600 < x.length * (ws.headD ⟨#[]⟩).size then 15 else 0
theorem fitE_zero {ws : List ByteArray} {x : Word} (h : fitE ws x = 0) : ruleE ws = 0 ∧ chkW x = 0 ∧ lettersS x ws.length = true ∧ x.length * (ws.headD ⟨#[]⟩).size ≤ 600 := by
  unfold fitE at h
  split at h
  · rename_i h1; exact absurd h h1
  · rename_i h1
    have h1' : askE ws x = 0 := by simpa using h1
    split at h
    · omega
    · rename_i h2
      split at h
      · omega
      · rename_i h3
        unfold askE at h1'
        split at h1'
        · rename_i h4; exact absurd h1' h4
        · rename_i h4
          exact ⟨by simpa using h4, h1', by simpa using h2, by omega⟩
def putV (ws : List ByteArray) (x : Word) : Word := if fitE ws x = 0 then putS ws x else []
set_option maxRecDepth 100000 in
set_option maxHeartbeats 4000000 in
theorem asked_any (A : Option Addr) (n c : Nat) (ws : List ByteArray) (s : ByteArray) (w : World) (B : Nat) (hB : B ≤ w.heap.size) (hr : RStrs w B A n ws) :
    Calls Try.prog 77 #[.agg #[.slice A n c], .string s] w fun e w' => e = .returned (.int .i64 (askE ws (bts s))) ∧ Below w.heap.size w w' := by
  by_cases h0 : ruleE ws = 0
  · have hR := Lib.hid (show askE ws (bts s) = chkW (bts s) by rw [askE, if_neg (by simpa using h0)])
    have h0H := Lib.hid h0
    clear h0
    go_enter Try.func77, Try.ntmps77
    go_wp2_with (first
      | (with_reducible show wpList _ _ _ (⟨_, .box 38 _, _, _, _, _⟩ :: _) _ _
         refine wpList_box_blk rfl 38 _ rfl #[.slice A n c] rfl ?_
         intro w1 g hG hgr hge
         have hk := Rk.box hB hr hG hgr
         have cg := hk.cell
         have hg := hk.bk.lt
         have hRB := hk.b
         clear hG hgr hge)
      | (with_reducible show wpList _ _ _ (⟨_, .load 38 _, _, _, _, _⟩ :: _) _ _
         refine wpList_load_blk rfl 38 _ rfl g rfl 38 #[.slice A n c] _ hk.bk Try.underlying38 rfl (info_oneP _) ?_)
      | (go_at_call 34; refine (CheckRule_any A n c ws _ B hRB hk.rs).mono ?_; rintro e w' ⟨rfl, hb'⟩; rw [h0H.out]
         replace hk := hk.call hb'
         have cg := hk.cell
         have hg := hk.bk.lt
         have hRB := hk.b
         clear hb')
      | (go_at_call 17; refine (Check_any s _).mono ?_; rintro e w' ⟨rfl, hb'⟩
         replace hk := hk.call hb'
         have cg := hk.cell
         have hg := hk.bk.lt
         have hRB := hk.b
         clear hb'))
    go_ret
    exact ⟨by rw [hR.out]; rfl, hk.be⟩
  · have hR := Lib.hid (show askE ws (bts s) = ruleE ws by rw [askE, if_pos h0])
    have h0b : (ruleE ws != 0) = true := by simpa using h0
    have h0c : (ruleE ws == 0) = false := by simpa using h0
    clear h0
    go_enter Try.func77, Try.ntmps77
    go_wp2_with (first
      | (with_reducible show wpList _ _ _ (⟨_, .box 38 _, _, _, _, _⟩ :: _) _ _
         refine wpList_box_blk rfl 38 _ rfl #[.slice A n c] rfl ?_
         intro w1 g hG hgr hge
         have hk := Rk.box hB hr hG hgr
         have cg := hk.cell
         have hg := hk.bk.lt
         have hRB := hk.b
         clear hG hgr hge)
      | (with_reducible show wpList _ _ _ (⟨_, .load 38 _, _, _, _, _⟩ :: _) _ _
         refine wpList_load_blk rfl 38 _ rfl g rfl 38 #[.slice A n c] _ hk.bk Try.underlying38 rfl (info_oneP _) ?_)
      | (go_at_call 34; refine (CheckRule_any A n c ws _ B hRB hk.rs).mono ?_; rintro e w' ⟨rfl, hb'⟩
         replace hk := hk.call hb'
         have cg := hk.cell
         have hg := hk.bk.lt
         have hRB := hk.b
         clear hb'))
    go_ret
    exact ⟨by rw [hR.out]; rfl, hk.be⟩
set_option maxRecDepth 100000 in
set_option maxHeartbeats 4000000 in
theorem ruled_any (A : Option Addr) (n c : Nat) (ws : List ByteArray) (s : ByteArray) (w : World) (B : Nat) (hB : B ≤ w.heap.size) (hr : RStrs w B A n ws) :
    Calls Try.prog 79 #[.agg #[.slice A n c], .string s] w fun e w' => e = .returned (.int .i64 (askE ws (bts s))) ∧ Below w.heap.size w w' := by
  by_cases h0 : ruleE ws = 0
  · have hR := Lib.hid (show askE ws (bts s) = chkW (bts s) by rw [askE, if_neg (by simpa using h0)])
    have h0H := Lib.hid h0
    clear h0
    go_enter Try.func79, Try.ntmps79
    go_wp2_with (first
      | (with_reducible show wpList _ _ _ (⟨_, .box 40 _, _, _, _, _⟩ :: _) _ _
         refine wpList_box_blk rfl 40 _ rfl #[.slice A n c] rfl ?_
         intro w1 g hG hgr hge
         have hk := Rk.box hB hr hG hgr
         have cg := hk.cell
         have hg := hk.bk.lt
         have hRB := hk.b
         clear hG hgr hge)
      | (with_reducible show wpList _ _ _ (⟨_, .load 40 _, _, _, _, _⟩ :: _) _ _
         refine wpList_load_blk rfl 40 _ rfl g rfl 40 #[.slice A n c] _ hk.bk Try.underlying40 rfl (info_oneR _) ?_)
      | (go_at_call 35; refine (refCheckRule_any A n c ws _ B hRB hk.rs).mono ?_; rintro e w' ⟨rfl, hb'⟩; rw [h0H.out]
         replace hk := hk.call hb'
         have cg := hk.cell
         have hg := hk.bk.lt
         have hRB := hk.b
         clear hb')
      | (go_at_call 18; refine (refCheck_any s _).mono ?_; rintro e w' ⟨rfl, hb'⟩
         replace hk := hk.call hb'
         have cg := hk.cell
         have hg := hk.bk.lt
         have hRB := hk.b
         clear hb'))
    go_ret
    exact ⟨by rw [hR.out]; rfl, hk.be⟩
  · have hR := Lib.hid (show askE ws (bts s) = ruleE ws by rw [askE, if_pos h0])
    have h0b : (ruleE ws != 0) = true := by simpa using h0
    have h0c : (ruleE ws == 0) = false := by simpa using h0
    clear h0
    go_enter Try.func79, Try.ntmps79
    go_wp2_with (first
      | (with_reducible show wpList _ _ _ (⟨_, .box 40 _, _, _, _, _⟩ :: _) _ _
         refine wpList_box_blk rfl 40 _ rfl #[.slice A n c] rfl ?_
         intro w1 g hG hgr hge
         have hk := Rk.box hB hr hG hgr
         have cg := hk.cell
         have hg := hk.bk.lt
         have hRB := hk.b
         clear hG hgr hge)
      | (with_reducible show wpList _ _ _ (⟨_, .load 40 _, _, _, _, _⟩ :: _) _ _
         refine wpList_load_blk rfl 40 _ rfl g rfl 40 #[.slice A n c] _ hk.bk Try.underlying40 rfl (info_oneR _) ?_)
      | (go_at_call 35; refine (refCheckRule_any A n c ws _ B hRB hk.rs).mono ?_; rintro e w' ⟨rfl, hb'⟩
         replace hk := hk.call hb'
         have cg := hk.cell
         have hg := hk.bk.lt
         have hRB := hk.b
         clear hb'))
    go_ret
    exact ⟨by rw [hR.out]; rfl, hk.be⟩
set_option maxRecDepth 100000 in
set_option maxHeartbeats 4000000 in
theorem fits_any (A : Option Addr) (n c : Nat) (ws : List ByteArray) (s : ByteArray) (w : World) (B : Nat) (hB : B ≤ w.heap.size) (hr : RStrs w B A n ws) :
    Calls Try.prog 67 #[.agg #[.slice A n c], .string s] w fun e w' => e = .returned (.int .i64 (fitE ws (bts s))) ∧ Below w.heap.size w w' := by
  have hlen := hr.len
  by_cases h0 : askE ws (bts s) = 0
  · have h0H := Lib.hid h0
    obtain ⟨hr0, hc0⟩ : ruleE ws = 0 ∧ chkW (bts s) = 0 := by
      unfold askE at h0
      split at h0
      · rename_i h; exact absurd h0 h
      · rename_i h; exact ⟨by simpa using h, h0⟩
    obtain ⟨z1, z2, z3, z4, _⟩ := ruleE_zero hr0
    obtain ⟨y1, y2⟩ := chkW_zero hc0
    rw [bts_len] at y1
    have hn1 : 1 ≤ n := by omega
    have hn4 : n ≤ 4 := by omega
    have hni : (0 : Int) < n := by omega
    obtain ⟨K, hK⟩ : ∃ K, (ws.headD ⟨#[]⟩).size = K := ⟨_, rfl⟩
    rw [hK] at z3 z4
    have hKH := Lib.hid hK
    have hho := high_over y2 (n := (n : Int)) (by omega) (by omega)
    have hH := Lib.hid (show highS (bts s) = (highN (bts s) : Nat) by rw [highS, if_pos y2])
    obtain ⟨k, hkk⟩ : ∃ k, highN (bts s) = k := ⟨_, rfl⟩
    rw [hkk] at hho
    have hkH := Lib.hid hkk
    cases h2 : lettersS (bts s) (n : Int) with
    | false =>
      have hR := Lib.hid (show fitE ws (bts s) = 2 by rw [fitE, if_neg (by simpa using h0), hlen, if_pos h2])
      rw [h2] at hho
      have hkn : (n : Int) < (k : Int) := by have := of_decide_eq_false hho.symm; omega
      clear h0 hr0 hc0 hK hkk hho h2 y2 hlen
      go_enter Try.func67, Try.ntmps67
      go_wp2_with (first
        | (with_reducible show wpList _ _ _ (⟨_, .box 38 _, _, _, _, _⟩ :: _) _ _
           refine wpList_box_blk rfl 38 _ rfl #[.slice A n c] rfl ?_
           intro w1 g hG hgr hge
           have hk := Rk.box hB hr hG hgr
           have cg := hk.cell
           have hg := hk.bk.lt
           have hRB := hk.b
           clear hG hgr hge)
        | (with_reducible show wpList _ _ _ (⟨_, .load 38 _, _, _, _, _⟩ :: _) _ _
           refine wpList_load_blk rfl 38 _ rfl g rfl 38 #[.slice A n c] _ hk.bk Try.underlying38 rfl (info_oneP _) ?_)
        | (go_at_call 77; refine (asked_any A n c ws s _ B hRB hk.rs).mono ?_; rintro e w' ⟨rfl, hb'⟩; rw [h0H.out]
           replace hk := hk.call hb'
           have cg := hk.cell
           have hg := hk.bk.lt
           have hRB := hk.b
           clear hb'))
      go_region_held3 (fun w' => w'.cell? ⟨g, 0, none⟩ = some (.slice A n c) ∧ Rk 38 w w' g A n c ws B)
        (first | assumption | exact ⟨cg, hk⟩ | exact ⟨cg, hk.drew⟩)
        (first | (go_at_call 52; refine (highest_any s _).mono ?_; rintro e w3 ⟨rfl, hb3⟩; rw [hH.out, hkH.out]
                  have hS3 : w3.cell? ⟨g, 0, none⟩ = some (.slice A n c) ∧ Rk 38 w w3 g A n c ws B := ⟨(hk.drew.call hb3).cell, hk.drew.call hb3⟩))
      go_wp2_with (fail)
      go_ret
      exact ⟨by rw [hR.out]; rfl, hS3.2.be⟩
    | true =>
      rw [h2] at hho
      have hkn : ¬ (n : Int) < (k : Int) := by have := of_decide_eq_true hho.symm; omega
      obtain ⟨M, hM⟩ : ∃ M, s.size * K = M := ⟨_, rfl⟩
      have hMi : (s.size : Int) * K = M := by rw [← hM]; simp
      have hMb : M ≤ 600 * 13 := by rw [← hM]; exact Nat.mul_le_mul y1 z4
      have hMbi : (M : Int) ≤ 7800 := by omega
      by_cases h6 : 600 < M
      all_goals
        have hR := Lib.hid (show fitE ws (bts s) = if 600 < M then 15 else 0 by rw [fitE, if_neg (by simpa using h0), hlen, if_neg (by rw [h2]; decide), bts_len, hK, hM])
        have h6i : 600 < (M : Int) ↔ 600 < M := by omega
        have hq : decide (600 < (M : Int)) = decide (600 < M) := by simp [h6i]
        first | rw [if_pos h6, ] at hR | rw [if_neg h6] at hR
        simp only [h6, decide_true, decide_false] at hq
        clear h0 hr0 hc0 hK hkk hho h2 y2 hlen hM h6i
        go_enter Try.func67, Try.ntmps67
        go_wp2_with (first
          | (with_reducible show wpList _ _ _ (⟨_, .box 38 _, _, _, _, _⟩ :: _) _ _
             refine wpList_box_blk rfl 38 _ rfl #[.slice A n c] rfl ?_
             intro w1 g hG hgr hge
             have hk := Rk.box hB hr hG hgr
             have cg := hk.cell
             have hg := hk.bk.lt
             have hRB := hk.b
             clear hG hgr hge)
          | (with_reducible show wpList _ _ _ (⟨_, .load 38 _, _, _, _, _⟩ :: _) _ _
             refine wpList_load_blk rfl 38 _ rfl g rfl 38 #[.slice A n c] _ hk.bk Try.underlying38 rfl (info_oneP _) ?_)
          | (go_at_call 77; refine (asked_any A n c ws s _ B hRB hk.rs).mono ?_; rintro e w' ⟨rfl, hb'⟩; rw [h0H.out]
             replace hk := hk.call hb'
             have cg := hk.cell
             have hg := hk.bk.lt
             have hRB := hk.b
             clear hb'))
        go_region_held3 (fun w' => w'.cell? ⟨g, 0, none⟩ = some (.slice A n c) ∧ Rk 38 w w' g A n c ws B)
          (first | assumption | exact ⟨cg, hk⟩ | exact ⟨cg, hk.drew⟩)
          (first | (go_at_call 52; refine (highest_any s _).mono ?_; rintro e w3 ⟨rfl, hb3⟩; rw [hH.out, hkH.out]
                    have hS3 : w3.cell? ⟨g, 0, none⟩ = some (.slice A n c) ∧ Rk 38 w w3 g A n c ws B := ⟨(hk.drew.call hb3).cell, hk.drew.call hb3⟩))
        replace hk := hS3.2
        replace cg := hk.cell
        replace hRB := hk.b
        go_wp2_with (first
          | (with_reducible show wpList _ _ _ (⟨_, .load 38 _, _, _, _, _⟩ :: _) _ _
             refine wpList_load_blk rfl 38 _ rfl g rfl 38 #[.slice A n c] _ hk.bk Try.underlying38 rfl (info_oneP _) ?_)
          | (go_at_call 74; refine (size_any A n c ws _ B hRB hk.rs (by omega)).mono ?_; rintro e w' ⟨rfl, hb'⟩; rw [hKH.out]
             replace hk := hk.call hb'
             have cg := hk.cell
             have hg := hk.bk.lt
             have hRB := hk.b
             clear hb'))
        go_ret
        exact ⟨by rw [hR.out]; rfl, hk.be⟩
  · have hR := Lib.hid (show fitE ws (bts s) = askE ws (bts s) by rw [fitE, if_pos h0])
    have h0b : (askE ws (bts s) != 0) = true := by simpa using h0
    have h0c : (askE ws (bts s) == 0) = false := by simpa using h0
    clear h0
    go_enter Try.func67, Try.ntmps67
    go_wp2_with (first
      | (with_reducible show wpList _ _ _ (⟨_, .box 38 _, _, _, _, _⟩ :: _) _ _
         refine wpList_box_blk rfl 38 _ rfl #[.slice A n c] rfl ?_
         intro w1 g hG hgr hge
         have hk := Rk.box hB hr hG hgr
         have cg := hk.cell
         have hg := hk.bk.lt
         have hRB := hk.b
         clear hG hgr hge)
      | (with_reducible show wpList _ _ _ (⟨_, .load 38 _, _, _, _, _⟩ :: _) _ _
         refine wpList_load_blk rfl 38 _ rfl g rfl 38 #[.slice A n c] _ hk.bk Try.underlying38 rfl (info_oneP _) ?_)
      | (go_at_call 77; refine (asked_any A n c ws s _ B hRB hk.rs).mono ?_; rintro e w' ⟨rfl, hb'⟩
         replace hk := hk.call hb'
         have cg := hk.cell
         have hg := hk.bk.lt
         have hRB := hk.b
         clear hb'))
    go_ret
    exact ⟨by rw [hR.out]; rfl, hk.be⟩
set_option maxRecDepth 100000 in
set_option maxHeartbeats 4000000 in
theorem refFits_any (A : Option Addr) (n c : Nat) (ws : List ByteArray) (s : ByteArray) (w : World) (B : Nat) (hB : B ≤ w.heap.size) (hr : RStrs w B A n ws) :
    Calls Try.prog 69 #[.agg #[.slice A n c], .string s] w fun e w' => e = .returned (.int .i64 (fitE ws (bts s))) ∧ Below w.heap.size w w' := by
  have hlen := hr.len
  by_cases h0 : askE ws (bts s) = 0
  · have h0H := Lib.hid h0
    obtain ⟨hr0, hc0⟩ : ruleE ws = 0 ∧ chkW (bts s) = 0 := by
      unfold askE at h0
      split at h0
      · rename_i h; exact absurd h0 h
      · rename_i h; exact ⟨by simpa using h, h0⟩
    obtain ⟨z1, z2, z3, z4, _⟩ := ruleE_zero hr0
    obtain ⟨y1, y2⟩ := chkW_zero hc0
    rw [bts_len] at y1
    have hn1 : 1 ≤ n := by omega
    have hn4 : n ≤ 4 := by omega
    have hni : (0 : Int) < n := by omega
    obtain ⟨K, hK⟩ : ∃ K, (ws.headD ⟨#[]⟩).size = K := ⟨_, rfl⟩
    rw [hK] at z3 z4
    have hKH := Lib.hid hK
    have hlet := fun w => written_any s (by omega) (n : Int) (by omega) (by omega) w
    cases h2 : lettersS (bts s) (n : Int) with
    | false =>
      have hR := Lib.hid (show fitE ws (bts s) = 2 by rw [fitE, if_neg (by simpa using h0), hlen, if_pos h2])
      have h2H := Lib.hid h2
      have hletH := Lib.hid hlet
      clear h0 hr0 hc0 hK h2 y2 hlen hlet
      go_enter Try.func69, Try.ntmps69
      go_wp2_with (first
        | (with_reducible show wpList _ _ _ (⟨_, .box 40 _, _, _, _, _⟩ :: _) _ _
           refine wpList_box_blk rfl 40 _ rfl #[.slice A n c] rfl ?_
           intro w1 g hG hgr hge
           have hk := Rk.box hB hr hG hgr
           have cg := hk.cell
           have hg := hk.bk.lt
           have hRB := hk.b
           clear hG hgr hge)
        | (with_reducible show wpList _ _ _ (⟨_, .load 40 _, _, _, _, _⟩ :: _) _ _
           refine wpList_load_blk rfl 40 _ rfl g rfl 40 #[.slice A n c] _ hk.bk Try.underlying40 rfl (info_oneR _) ?_)
        | (go_at_call 79; refine (ruled_any A n c ws s _ B hRB hk.rs).mono ?_; rintro e w' ⟨rfl, hb'⟩; rw [h0H.out]
           replace hk := hk.call hb'
           have cg := hk.cell
           have hg := hk.bk.lt
           have hRB := hk.b
           clear hb')
        | (go_at_call 53; refine (hletH.out _).mono ?_; rintro e w' ⟨rfl, hb'⟩; rw [h2H.out]
           replace hk := hk.call hb'
           have cg := hk.cell
           have hg := hk.bk.lt
           have hRB := hk.b
           clear hb'))
      go_ret
      exact ⟨by rw [hR.out]; rfl, hk.be⟩
    | true =>
      obtain ⟨M, hM⟩ : ∃ M, s.size * K = M := ⟨_, rfl⟩
      have hMi : (s.size : Int) * K = M := by rw [← hM]; simp
      have hMb : M ≤ 600 * 13 := by rw [← hM]; exact Nat.mul_le_mul y1 z4
      have hMbi : (M : Int) ≤ 7800 := by omega
      have h2H := Lib.hid h2
      have hletH := Lib.hid hlet
      by_cases h6 : 600 < M
      all_goals
        have hR := Lib.hid (show fitE ws (bts s) = if 600 < M then 15 else 0 by rw [fitE, if_neg (by simpa using h0), hlen, if_neg (by rw [h2]; decide), bts_len, hK, hM])
        have h6i : 600 < (M : Int) ↔ 600 < M := by omega
        have hq : decide (600 < (M : Int)) = decide (600 < M) := by simp [h6i]
        first | rw [if_pos h6, ] at hR | rw [if_neg h6] at hR
        simp only [h6, decide_true, decide_false] at hq
        clear h0 hr0 hc0 hK h2 y2 hlen hM h6i hlet
        go_enter Try.func69, Try.ntmps69
        go_wp2_with (first
          | (with_reducible show wpList _ _ _ (⟨_, .box 40 _, _, _, _, _⟩ :: _) _ _
             refine wpList_box_blk rfl 40 _ rfl #[.slice A n c] rfl ?_
             intro w1 g hG hgr hge
             have hk := Rk.box hB hr hG hgr
             have cg := hk.cell
             have hg := hk.bk.lt
             have hRB := hk.b
             clear hG hgr hge)
          | (with_reducible show wpList _ _ _ (⟨_, .load 40 _, _, _, _, _⟩ :: _) _ _
             refine wpList_load_blk rfl 40 _ rfl g rfl 40 #[.slice A n c] _ hk.bk Try.underlying40 rfl (info_oneR _) ?_)
          | (go_at_call 79; refine (ruled_any A n c ws s _ B hRB hk.rs).mono ?_; rintro e w' ⟨rfl, hb'⟩; rw [h0H.out]
             replace hk := hk.call hb'
             have cg := hk.cell
             have hg := hk.bk.lt
             have hRB := hk.b
             clear hb')
          | (go_at_call 53; refine (hletH.out _).mono ?_; rintro e w' ⟨rfl, hb'⟩; rw [h2H.out]
             replace hk := hk.call hb'
             have cg := hk.cell
             have hg := hk.bk.lt
             have hRB := hk.b
             clear hb'
             obtain ⟨ad, s0, hA0, hab, hcell0, hs0⟩ := hk.rs.first (by omega)
             subst hA0
             have hs0K : s0.size = K := by rw [← hKH.out, hs0.out]))
        go_ret
        exact ⟨by rw [hR.out]; rfl, hk.be⟩
  · have hR := Lib.hid (show fitE ws (bts s) = askE ws (bts s) by rw [fitE, if_pos h0])
    have h0b : (askE ws (bts s) != 0) = true := by simpa using h0
    have h0c : (askE ws (bts s) == 0) = false := by simpa using h0
    clear h0
    go_enter Try.func69, Try.ntmps69
    go_wp2_with (first
      | (with_reducible show wpList _ _ _ (⟨_, .box 40 _, _, _, _, _⟩ :: _) _ _
         refine wpList_box_blk rfl 40 _ rfl #[.slice A n c] rfl ?_
         intro w1 g hG hgr hge
         have hk := Rk.box hB hr hG hgr
         have cg := hk.cell
         have hg := hk.bk.lt
         have hRB := hk.b
         clear hG hgr hge)
      | (with_reducible show wpList _ _ _ (⟨_, .load 40 _, _, _, _, _⟩ :: _) _ _
         refine wpList_load_blk rfl 40 _ rfl g rfl 40 #[.slice A n c] _ hk.bk Try.underlying40 rfl (info_oneR _) ?_)
      | (go_at_call 79; refine (ruled_any A n c ws s _ B hRB hk.rs).mono ?_; rintro e w' ⟨rfl, hb'⟩
         replace hk := hk.call hb'
         have cg := hk.cell
         have hg := hk.bk.lt
         have hRB := hk.b
         clear hb'))
    go_ret
    exact ⟨by rw [hR.out]; rfl, hk.be⟩
set_option maxRecDepth 100000 in
set_option maxHeartbeats 4000000 in
theorem Replace_any (A : Option Addr) (n c : Nat) (ws : List ByteArray) (s : ByteArray) (w : World) (B : Nat) (hB : B ≤ w.heap.size) (hr : RStrs w B A n ws) :
    Calls Try.prog 26 #[.agg #[.slice A n c], .string s] w fun e w' => e = .returned (.tuple #[.string ⟨(putV ws (bts s)).toArray⟩, .int .i64 (fitE ws (bts s))]) ∧ Below w.heap.size w w' := by
  by_cases h0 : fitE ws (bts s) = 0
  · have hR := Lib.hid (show putV ws (bts s) = putS ws (bts s) by rw [putV, if_pos h0])
    have hlen := hr.len
    obtain ⟨q1, q2, q3, _⟩ := fitE_zero h0
    obtain ⟨z1, z2, z3, z4, z5⟩ := ruleE_zero q1
    obtain ⟨y1, y2⟩ := chkW_zero q2
    rw [bts_len] at y1
    rw [hlen] at q3
    have hput := Lib.hid (fun (w' : World) (B' : Nat) h1 h2 => put_any A n c ws s w' B' h1 h2 (by omega) q3 (by omega) (fun t ht => by have := (z5 t ht).1; omega))
    have h0H := Lib.hid h0
    clear h0 q1 q2 q3 z5 y2
    go_enter Try.func26, Try.ntmps26
    go_wp2_with (first
      | (with_reducible show wpList _ _ _ (⟨_, .box 38 _, _, _, _, _⟩ :: _) _ _
         refine wpList_box_blk rfl 38 _ rfl #[.slice A n c] rfl ?_
         intro w1 g hG hgr hge
         have hk := Rk.box hB hr hG hgr
         have cg := hk.cell
         have hg := hk.bk.lt
         have hRB := hk.b
         clear hG hgr hge)
      | (with_reducible show wpList _ _ _ (⟨_, .load 38 _, _, _, _, _⟩ :: _) _ _
         refine wpList_load_blk rfl 38 _ rfl g rfl 38 #[.slice A n c] _ hk.bk Try.underlying38 rfl (info_oneP _) ?_)
      | (go_at_call 67; refine (fits_any A n c ws s _ B hRB hk.rs).mono ?_; rintro e w' ⟨rfl, hb'⟩; rw [h0H.out]
         replace hk := hk.call hb'
         have cg := hk.cell
         have hg := hk.bk.lt
         have hRB := hk.b
         clear hb')
      | (go_at_call 68; refine (hput.out _ B hRB hk.rs).mono ?_; rintro e w' ⟨rfl, hb'⟩
         replace hk := hk.call hb'
         have cg := hk.cell
         have hg := hk.bk.lt
         have hRB := hk.b
         clear hb'))
    go_ret2
    exact ⟨by rw [hR.out, h0H.out]; rfl, hk.be⟩
  · have hR := Lib.hid (show putV ws (bts s) = [] by rw [putV, if_neg h0])
    have h0b : (fitE ws (bts s) != 0) = true := by simpa using h0
    clear h0
    go_enter Try.func26, Try.ntmps26
    go_wp2_with (first
      | (with_reducible show wpList _ _ _ (⟨_, .box 38 _, _, _, _, _⟩ :: _) _ _
         refine wpList_box_blk rfl 38 _ rfl #[.slice A n c] rfl ?_
         intro w1 g hG hgr hge
         have hk := Rk.box hB hr hG hgr
         have cg := hk.cell
         have hg := hk.bk.lt
         have hRB := hk.b
         clear hG hgr hge)
      | (with_reducible show wpList _ _ _ (⟨_, .load 38 _, _, _, _, _⟩ :: _) _ _
         refine wpList_load_blk rfl 38 _ rfl g rfl 38 #[.slice A n c] _ hk.bk Try.underlying38 rfl (info_oneP _) ?_)
      | (go_at_call 67; refine (fits_any A n c ws s _ B hRB hk.rs).mono ?_; rintro e w' ⟨rfl, hb'⟩
         replace hk := hk.call hb'
         have cg := hk.cell
         have hg := hk.bk.lt
         have hRB := hk.b
         clear hb'))
    go_ret2
    exact ⟨by rw [hR.out]; rfl, hk.be⟩
set_option maxRecDepth 100000 in
set_option maxHeartbeats 4000000 in
theorem refReplace_any (A : Option Addr) (n c : Nat) (ws : List ByteArray) (s : ByteArray) (w : World) (B : Nat) (hB : B ≤ w.heap.size) (hr : RStrs w B A n ws) :
    Calls Try.prog 27 #[.agg #[.slice A n c], .string s] w fun e w' => e = .returned (.tuple #[.string ⟨(putV ws (bts s)).toArray⟩, .int .i64 (fitE ws (bts s))]) ∧ Below w.heap.size w w' := by
  by_cases h0 : fitE ws (bts s) = 0
  · have hR := Lib.hid (show putV ws (bts s) = putS ws (bts s) by rw [putV, if_pos h0])
    have hlen := hr.len
    obtain ⟨q1, q2, q3, _⟩ := fitE_zero h0
    obtain ⟨z1, z2, z3, z4, z5⟩ := ruleE_zero q1
    obtain ⟨y1, y2⟩ := chkW_zero q2
    rw [bts_len] at y1
    rw [hlen] at q3
    have hput := Lib.hid (fun (w' : World) (B' : Nat) h1 h2 => replaced_any A n c ws s w' B' h1 h2 (by omega) q3 (by omega) (fun t ht => by have := (z5 t ht).1; omega))
    have h0H := Lib.hid h0
    clear h0 q1 q2 q3 z5 y2
    go_enter Try.func27, Try.ntmps27
    go_wp2_with (first
      | (with_reducible show wpList _ _ _ (⟨_, .box 40 _, _, _, _, _⟩ :: _) _ _
         refine wpList_box_blk rfl 40 _ rfl #[.slice A n c] rfl ?_
         intro w1 g hG hgr hge
         have hk := Rk.box hB hr hG hgr
         have cg := hk.cell
         have hg := hk.bk.lt
         have hRB := hk.b
         clear hG hgr hge)
      | (with_reducible show wpList _ _ _ (⟨_, .load 40 _, _, _, _, _⟩ :: _) _ _
         refine wpList_load_blk rfl 40 _ rfl g rfl 40 #[.slice A n c] _ hk.bk Try.underlying40 rfl (info_oneR _) ?_)
      | (go_at_call 69; refine (refFits_any A n c ws s _ B hRB hk.rs).mono ?_; rintro e w' ⟨rfl, hb'⟩; rw [h0H.out]
         replace hk := hk.call hb'
         have cg := hk.cell
         have hg := hk.bk.lt
         have hRB := hk.b
         clear hb')
      | (go_at_call 70; refine (hput.out _ B hRB hk.rs).mono ?_; rintro e w' ⟨rfl, hb'⟩
         replace hk := hk.call hb'
         have cg := hk.cell
         have hg := hk.bk.lt
         have hRB := hk.b
         clear hb'))
    go_ret2
    exact ⟨by rw [hR.out, h0H.out]; rfl, hk.be⟩
  · have hR := Lib.hid (show putV ws (bts s) = [] by rw [putV, if_neg h0])
    have h0b : (fitE ws (bts s) != 0) = true := by simpa using h0
    clear h0
    go_enter Try.func27, Try.ntmps27
    go_wp2_with (first
      | (with_reducible show wpList _ _ _ (⟨_, .box 40 _, _, _, _, _⟩ :: _) _ _
         refine wpList_box_blk rfl 40 _ rfl #[.slice A n c] rfl ?_
         intro w1 g hG hgr hge
         have hk := Rk.box hB hr hG hgr
         have cg := hk.cell
         have hg := hk.bk.lt
         have hRB := hk.b
         clear hG hgr hge)
      | (with_reducible show wpList _ _ _ (⟨_, .load 40 _, _, _, _, _⟩ :: _) _ _
         refine wpList_load_blk rfl 40 _ rfl g rfl 40 #[.slice A n c] _ hk.bk Try.underlying40 rfl (info_oneR _) ?_)
      | (go_at_call 69; refine (refFits_any A n c ws s _ B hRB hk.rs).mono ?_; rintro e w' ⟨rfl, hb'⟩
         replace hk := hk.call hb'
         have cg := hk.cell
         have hg := hk.bk.lt
         have hRB := hk.b
         clear hb'))
    go_ret2
    exact ⟨by rw [hR.out]; rfl, hk.be⟩
end Go.Proofs.Ytdaaiockkbolbaa
