/- Keeps, Against, Proves on both sides. (Printed by genkeeps.py.) -/
import Derived.Test.YtdaaiockkbolbaaRefAg
namespace Go.Proofs.Ytdaaiockkbolbaa
open Go.RowKit
def keepV (ws : List ByteArray) : Bool := if ruleE ws = 0 then (agS ws ws.length 3).isEmpty else false
def agE (ws : List ByteArray) : Int := if ruleE ws ≠ 0 then ruleE ws else if (agS ws ws.length 3).isEmpty then 13 else 0
def agV (ws : List ByteArray) : Word := if ruleE ws = 0 then agS ws ws.length 3 else []
def prE (ws : List ByteArray) (x : Word) : Int := if fitE ws x ≠ 0 then fitE ws x else if pfS ws x then 0 else 14
set_option maxRecDepth 100000 in
set_option maxHeartbeats 4000000 in
theorem Keeps_any (A : Option Addr) (n c : Nat) (ws : List ByteArray) (w : World) (B : Nat) (hB : B ≤ w.heap.size) (hr : RStrs w B A n ws) :
    Calls Try.prog 28 #[.agg #[.slice A n c]] w fun e w' => e = .returned (.tuple #[.bool (keepV ws), .int .i64 (ruleE ws)]) ∧ Below w.heap.size w w' := by
  have hlen := hr.len
  by_cases h0 : ruleE ws = 0
  · have hR := Lib.hid (show keepV ws = (agS ws n 3).isEmpty by rw [keepV, if_pos h0, hlen])
    obtain ⟨z1, z2, z3, z4, z5⟩ := ruleE_zero h0
    have hag := Lib.hid (fun (w' : World) (B' : Nat) h1 h2 => against_any A n c ws w' B' h1 h2 (by omega) (fun t ht => by have := (z5 t ht).1; omega))
    have h0H := Lib.hid h0
    clear h0 z5
    go_enter Try.func28, Try.ntmps28
    go_wp2_with (first
      | (with_reducible show wpList _ _ _ (⟨_, .box 38 _, _, _, _, _⟩ :: _) _ _
         refine wpList_box_blk rfl 38 _ rfl #[.slice A n c] rfl ?_
         intro w1 g hG hgr hge
         have hk := Rk.box hB hr hG hgr
         have cg := hk.cell
         have hg := hk.bk.lt
         have hRB := hk.b
         clear hG hgr hge)
      | (with_reducible show wpList _ _ _ (⟨_, .load 38 _, _, _, _, _⟩ :: _) _ _
         refine wpList_load_blk rfl 38 _ rfl g rfl 38 #[.slice A n c] _ hk.bk Try.underlying38 rfl (info_oneP _) ?_)
      | (go_at_call 34; refine (CheckRule_any A n c ws _ B hRB hk.rs).mono ?_; rintro e w' ⟨rfl, hb'⟩; rw [h0H.out]
         replace hk := hk.call hb'
         have cg := hk.cell
         have hg := hk.bk.lt
         have hRB := hk.b
         clear hb')
      | (go_at_call 71; refine (hag.out _ B hRB hk.rs).mono ?_; rintro e w' ⟨rfl, hb'⟩
         replace hk := hk.call hb'
         have cg := hk.cell
         have hg := hk.bk.lt
         have hRB := hk.b
         clear hb'))
    go_ret2
    exact ⟨by rw [hR.out, h0H.out]; rfl, hk.be⟩
  · have hR := Lib.hid (show keepV ws = false by rw [keepV, if_neg h0])
    have h0b : (ruleE ws != 0) = true := by simpa using h0
    have h0c : (ruleE ws == 0) = false := by simpa using h0
    clear h0
    go_enter Try.func28, Try.ntmps28
    go_wp2_with (first
      | (with_reducible show wpList _ _ _ (⟨_, .box 38 _, _, _, _, _⟩ :: _) _ _
         refine wpList_box_blk rfl 38 _ rfl #[.slice A n c] rfl ?_
         intro w1 g hG hgr hge
         have hk := Rk.box hB hr hG hgr
         have cg := hk.cell
         have hg := hk.bk.lt
         have hRB := hk.b
         clear hG hgr hge)
      | (with_reducible show wpList _ _ _ (⟨_, .load 38 _, _, _, _, _⟩ :: _) _ _
         refine wpList_load_blk rfl 38 _ rfl g rfl 38 #[.slice A n c] _ hk.bk Try.underlying38 rfl (info_oneP _) ?_)
      | (go_at_call 34; refine (CheckRule_any A n c ws _ B hRB hk.rs).mono ?_; rintro e w' ⟨rfl, hb'⟩
         replace hk := hk.call hb'
         have cg := hk.cell
         have hg := hk.bk.lt
         have hRB := hk.b
         clear hb'))
    go_ret2
    exact ⟨by rw [hR.out]; rfl, hk.be⟩
set_option maxRecDepth 100000 in
set_option maxHeartbeats 4000000 in
theorem refKeeps_any (A : Option Addr) (n c : Nat) (ws : List ByteArray) (w : World) (B : Nat) (hB : B ≤ w.heap.size) (hr : RStrs w B A n ws) :
    Calls Try.prog 29 #[.agg #[.slice A n c]] w fun e w' => e = .returned (.tuple #[.bool (keepV ws), .int .i64 (ruleE ws)]) ∧ Below w.heap.size w w' := by
  have hlen := hr.len
  by_cases h0 : ruleE ws = 0
  · have hR := Lib.hid (show keepV ws = (agS ws n 3).isEmpty by rw [keepV, if_pos h0, hlen])
    obtain ⟨z1, z2, z3, z4, z5⟩ := ruleE_zero h0
    have hag := Lib.hid (fun (w' : World) (B' : Nat) h1 h2 => refAgainst_in A n c ws w' B' h1 h2 (by omega) (fun t ht => by have := (z5 t ht).1; omega))
    have h0H := Lib.hid h0
    clear h0 z5
    go_enter Try.func29, Try.ntmps29
    go_wp2_with (first
      | (with_reducible show wpList _ _ _ (⟨_, .box 40 _, _, _, _, _⟩ :: _) _ _
         refine wpList_box_blk rfl 40 _ rfl #[.slice A n c] rfl ?_
         intro w1 g hG hgr hge
         have hk := Rk.box hB hr hG hgr
         have cg := hk.cell
         have hg := hk.bk.lt
         have hRB := hk.b
         clear hG hgr hge)
      | (with_reducible show wpList _ _ _ (⟨_, .load 40 _, _, _, _, _⟩ :: _) _ _
         refine wpList_load_blk rfl 40 _ rfl g rfl 40 #[.slice A n c] _ hk.bk Try.underlying40 rfl (info_oneR _) ?_)
      | (go_at_call 35; refine (refCheckRule_any A n c ws _ B hRB hk.rs).mono ?_; rintro e w' ⟨rfl, hb'⟩; rw [h0H.out]
         replace hk := hk.call hb'
         have cg := hk.cell
         have hg := hk.bk.lt
         have hRB := hk.b
         clear hb')
      | (go_at_call 72; refine (hag.out _ B hRB hk.rs).mono ?_; rintro e w' ⟨rfl, hb'⟩
         replace hk := hk.call hb'
         have cg := hk.cell
         have hg := hk.bk.lt
         have hRB := hk.b
         clear hb'))
    go_ret2
    exact ⟨by rw [hR.out, h0H.out]; rfl, hk.be⟩
  · have hR := Lib.hid (show keepV ws = false by rw [keepV, if_neg h0])
    have h0b : (ruleE ws != 0) = true := by simpa using h0
    have h0c : (ruleE ws == 0) = false := by simpa using h0
    clear h0
    go_enter Try.func29, Try.ntmps29
    go_wp2_with (first
      | (with_reducible show wpList _ _ _ (⟨_, .box 40 _, _, _, _, _⟩ :: _) _ _
         refine wpList_box_blk rfl 40 _ rfl #[.slice A n c] rfl ?_
         intro w1 g hG hgr hge
         have hk := Rk.box hB hr hG hgr
         have cg := hk.cell
         have hg := hk.bk.lt
         have hRB := hk.b
         clear hG hgr hge)
      | (with_reducible show wpList _ _ _ (⟨_, .load 40 _, _, _, _, _⟩ :: _) _ _
         refine wpList_load_blk rfl 40 _ rfl g rfl 40 #[.slice A n c] _ hk.bk Try.underlying40 rfl (info_oneR _) ?_)
      | (go_at_call 35; refine (refCheckRule_any A n c ws _ B hRB hk.rs).mono ?_; rintro e w' ⟨rfl, hb'⟩
         replace hk := hk.call hb'
         have cg := hk.cell
         have hg := hk.bk.lt
         have hRB := hk.b
         clear hb'))
    go_ret2
    exact ⟨by rw [hR.out]; rfl, hk.be⟩
set_option maxRecDepth 100000 in
set_option maxHeartbeats 4000000 in
theorem Against_any (A : Option Addr) (n c : Nat) (ws : List ByteArray) (w : World) (B : Nat) (hB : B ≤ w.heap.size) (hr : RStrs w B A n ws) :
    Calls Try.prog 30 #[.agg #[.slice A n c]] w fun e w' => e = .returned (.tuple #[.string ⟨(agV ws).toArray⟩, .int .i64 (agE ws)]) ∧ Below w.heap.size w w' := by
  have hlen := hr.len
  by_cases h0 : ruleE ws = 0
  · have hR := Lib.hid (show agV ws = agS ws n 3 by rw [agV, if_pos h0, hlen])
    obtain ⟨z1, z2, z3, z4, z5⟩ := ruleE_zero h0
    have hag := Lib.hid (fun (w' : World) (B' : Nat) h1 h2 => against_any A n c ws w' B' h1 h2 (by omega) (fun t ht => by have := (z5 t ht).1; omega))
    have h0H := Lib.hid h0
    obtain ⟨a, ha⟩ : ∃ a, agS ws n 3 = a := ⟨_, rfl⟩
    rw [ha] at hR
    have hE0 : agE ws = if a.isEmpty then 13 else 0 := by rw [agE, if_neg (by simpa using h0), hlen, ha]
    rw [ha] at hag
    cases hq : a.isEmpty with
    | true =>
      obtain rfl : a = [] := by cases a with
        | nil => rfl
        | cons b l => cases hq
      have hE := Lib.hid (show agE ws = 13 from hE0)
      clear h0 z5 ha hE0 hq
      go_enter Try.func30, Try.ntmps30
      go_wp2_with (first
        | (with_reducible show wpList _ _ _ (⟨_, .box 38 _, _, _, _, _⟩ :: _) _ _
           refine wpList_box_blk rfl 38 _ rfl #[.slice A n c] rfl ?_
           intro w1 g hG hgr hge
           have hk := Rk.box hB hr hG hgr
           have cg := hk.cell
           have hg := hk.bk.lt
           have hRB := hk.b
           clear hG hgr hge)
        | (with_reducible show wpList _ _ _ (⟨_, .load 38 _, _, _, _, _⟩ :: _) _ _
           refine wpList_load_blk rfl 38 _ rfl g rfl 38 #[.slice A n c] _ hk.bk Try.underlying38 rfl (info_oneP _) ?_)
        | (go_at_call 34; refine (CheckRule_any A n c ws _ B hRB hk.rs).mono ?_; rintro e w' ⟨rfl, hb'⟩; rw [h0H.out]
           replace hk := hk.call hb'
           have cg := hk.cell
           have hg := hk.bk.lt
           have hRB := hk.b
           clear hb')
        | (go_at_call 71; refine (hag.out _ B hRB hk.rs).mono ?_; rintro e w' ⟨rfl, hb'⟩
           replace hk := hk.call hb'
           have cg := hk.cell
           have hg := hk.bk.lt
           have hRB := hk.b
           clear hb'))
      go_ret2
      exact ⟨by rw [hR.out, hE.out]; rfl, hk.be⟩
    | false =>
      have hE := Lib.hid (show agE ws = 0 by rw [hE0, hq]; rfl)
      clear h0 z5 ha hE0
      go_enter Try.func30, Try.ntmps30
      go_wp2_with (first
        | (with_reducible show wpList _ _ _ (⟨_, .box 38 _, _, _, _, _⟩ :: _) _ _
           refine wpList_box_blk rfl 38 _ rfl #[.slice A n c] rfl ?_
           intro w1 g hG hgr hge
           have hk := Rk.box hB hr hG hgr
           have cg := hk.cell
           have hg := hk.bk.lt
           have hRB := hk.b
           clear hG hgr hge)
        | (with_reducible show wpList _ _ _ (⟨_, .load 38 _, _, _, _, _⟩ :: _) _ _
           refine wpList_load_blk rfl 38 _ rfl g rfl 38 #[.slice A n c] _ hk.bk Try.underlying38 rfl (info_oneP _) ?_)
        | (go_at_call 34; refine (CheckRule_any A n c ws _ B hRB hk.rs).mono ?_; rintro e w' ⟨rfl, hb'⟩; rw [h0H.out]
           replace hk := hk.call hb'
           have cg := hk.cell
           have hg := hk.bk.lt
           have hRB := hk.b
           clear hb')
        | (go_at_call 71; refine (hag.out _ B hRB hk.rs).mono ?_; rintro e w' ⟨rfl, hb'⟩
           replace hk := hk.call hb'
           have cg := hk.cell
           have hg := hk.bk.lt
           have hRB := hk.b
           clear hb'))
      go_ret2
      exact ⟨by rw [hR.out, hE.out]; rfl, hk.be⟩
  · have hR := Lib.hid (show agV ws = [] by rw [agV, if_neg h0])
    have hE := Lib.hid (show agE ws = ruleE ws by rw [agE, if_pos h0])
    have h0b : (ruleE ws != 0) = true := by simpa using h0
    have h0c : (ruleE ws == 0) = false := by simpa using h0
    clear h0
    go_enter Try.func30, Try.ntmps30
    go_wp2_with (first
      | (with_reducible show wpList _ _ _ (⟨_, .box 38 _, _, _, _, _⟩ :: _) _ _
         refine wpList_box_blk rfl 38 _ rfl #[.slice A n c] rfl ?_
         intro w1 g hG hgr hge
         have hk := Rk.box hB hr hG hgr
         have cg := hk.cell
         have hg := hk.bk.lt
         have hRB := hk.b
         clear hG hgr hge)
      | (with_reducible show wpList _ _ _ (⟨_, .load 38 _, _, _, _, _⟩ :: _) _ _
         refine wpList_load_blk rfl 38 _ rfl g rfl 38 #[.slice A n c] _ hk.bk Try.underlying38 rfl (info_oneP _) ?_)
      | (go_at_call 34; refine (CheckRule_any A n c ws _ B hRB hk.rs).mono ?_; rintro e w' ⟨rfl, hb'⟩
         replace hk := hk.call hb'
         have cg := hk.cell
         have hg := hk.bk.lt
         have hRB := hk.b
         clear hb'))
    go_ret2
    exact ⟨by rw [hR.out, hE.out]; rfl, hk.be⟩
set_option maxRecDepth 100000 in
set_option maxHeartbeats 4000000 in
theorem refAgainst_any (A : Option Addr) (n c : Nat) (ws : List ByteArray) (w : World) (B : Nat) (hB : B ≤ w.heap.size) (hr : RStrs w B A n ws) :
    Calls Try.prog 31 #[.agg #[.slice A n c]] w fun e w' => e = .returned (.tuple #[.string ⟨(agV ws).toArray⟩, .int .i64 (agE ws)]) ∧ Below w.heap.size w w' := by
  have hlen := hr.len
  by_cases h0 : ruleE ws = 0
  · have hR := Lib.hid (show agV ws = agS ws n 3 by rw [agV, if_pos h0, hlen])
    obtain ⟨z1, z2, z3, z4, z5⟩ := ruleE_zero h0
    have hag := Lib.hid (fun (w' : World) (B' : Nat) h1 h2 => refAgainst_in A n c ws w' B' h1 h2 (by omega) (fun t ht => by have := (z5 t ht).1; omega))
    have h0H := Lib.hid h0
    obtain ⟨a, ha⟩ : ∃ a, agS ws n 3 = a := ⟨_, rfl⟩
    rw [ha] at hR
    have hE0 : agE ws = if a.isEmpty then 13 else 0 := by rw [agE, if_neg (by simpa using h0), hlen, ha]
    rw [ha] at hag
    cases hq : a.isEmpty with
    | true =>
      obtain rfl : a = [] := by cases a with
        | nil => rfl
        | cons b l => cases hq
      have hE := Lib.hid (show agE ws = 13 from hE0)
      clear h0 z5 ha hE0 hq
      go_enter Try.func31, Try.ntmps31
      go_wp2_with (first
        | (with_reducible show wpList _ _ _ (⟨_, .box 40 _, _, _, _, _⟩ :: _) _ _
           refine wpList_box_blk rfl 40 _ rfl #[.slice A n c] rfl ?_
           intro w1 g hG hgr hge
           have hk := Rk.box hB hr hG hgr
           have cg := hk.cell
           have hg := hk.bk.lt
           have hRB := hk.b
           clear hG hgr hge)
        | (with_reducible show wpList _ _ _ (⟨_, .load 40 _, _, _, _, _⟩ :: _) _ _
           refine wpList_load_blk rfl 40 _ rfl g rfl 40 #[.slice A n c] _ hk.bk Try.underlying40 rfl (info_oneR _) ?_)
        | (go_at_call 35; refine (refCheckRule_any A n c ws _ B hRB hk.rs).mono ?_; rintro e w' ⟨rfl, hb'⟩; rw [h0H.out]
           replace hk := hk.call hb'
           have cg := hk.cell
           have hg := hk.bk.lt
           have hRB := hk.b
           clear hb')
        | (go_at_call 72; refine (hag.out _ B hRB hk.rs).mono ?_; rintro e w' ⟨rfl, hb'⟩
           replace hk := hk.call hb'
           have cg := hk.cell
           have hg := hk.bk.lt
           have hRB := hk.b
           clear hb'))
      go_ret2
      exact ⟨by rw [hR.out, hE.out]; rfl, hk.be⟩
    | false =>
      have hE := Lib.hid (show agE ws = 0 by rw [hE0, hq]; rfl)
      clear h0 z5 ha hE0
      go_enter Try.func31, Try.ntmps31
      go_wp2_with (first
        | (with_reducible show wpList _ _ _ (⟨_, .box 40 _, _, _, _, _⟩ :: _) _ _
           refine wpList_box_blk rfl 40 _ rfl #[.slice A n c] rfl ?_
           intro w1 g hG hgr hge
           have hk := Rk.box hB hr hG hgr
           have cg := hk.cell
           have hg := hk.bk.lt
           have hRB := hk.b
           clear hG hgr hge)
        | (with_reducible show wpList _ _ _ (⟨_, .load 40 _, _, _, _, _⟩ :: _) _ _
           refine wpList_load_blk rfl 40 _ rfl g rfl 40 #[.slice A n c] _ hk.bk Try.underlying40 rfl (info_oneR _) ?_)
        | (go_at_call 35; refine (refCheckRule_any A n c ws _ B hRB hk.rs).mono ?_; rintro e w' ⟨rfl, hb'⟩; rw [h0H.out]
           replace hk := hk.call hb'
           have cg := hk.cell
           have hg := hk.bk.lt
           have hRB := hk.b
           clear hb')
        | (go_at_call 72; refine (hag.out _ B hRB hk.rs).mono ?_; rintro e w' ⟨rfl, hb'⟩
           replace hk := hk.call hb'
           have cg := hk.cell
           have hg := hk.bk.lt
           have hRB := hk.b
           clear hb'))
      go_ret2
      exact ⟨by rw [hR.out, hE.out]; rfl, hk.be⟩
  · have hR := Lib.hid (show agV ws = [] by rw [agV, if_neg h0])
    have hE := Lib.hid (show agE ws = ruleE ws by rw [agE, if_pos h0])
    have h0b : (ruleE ws != 0) = true := by simpa using h0
    have h0c : (ruleE ws == 0) = false := by simpa using h0
    clear h0
    go_enter Try.func31, Try.ntmps31
    go_wp2_with (first
      | (with_reducible show wpList _ _ _ (⟨_, .box 40 _, _, _, _, _⟩ :: _) _ _
         refine wpList_box_blk rfl 40 _ rfl #[.slice A n c] rfl ?_
         intro w1 g hG hgr hge
         have hk := Rk.box hB hr hG hgr
         have cg := hk.cell
         have hg := hk.bk.lt
         have hRB := hk.b
         clear hG hgr hge)
      | (with_reducible show wpList _ _ _ (⟨_, .load 40 _, _, _, _, _⟩ :: _) _ _
         refine wpList_load_blk rfl 40 _ rfl g rfl 40 #[.slice A n c] _ hk.bk Try.underlying40 rfl (info_oneR _) ?_)
      | (go_at_call 35; refine (refCheckRule_any A n c ws _ B hRB hk.rs).mono ?_; rintro e w' ⟨rfl, hb'⟩
         replace hk := hk.call hb'
         have cg := hk.cell
         have hg := hk.bk.lt
         have hRB := hk.b
         clear hb'))
    go_ret2
    exact ⟨by rw [hR.out, hE.out]; rfl, hk.be⟩
set_option maxRecDepth 100000 in
set_option maxHeartbeats 4000000 in
theorem Proves_any (A : Option Addr) (n c : Nat) (ws : List ByteArray) (s : ByteArray) (w : World) (B : Nat) (hB : B ≤ w.heap.size) (hr : RStrs w B A n ws) :
    Calls Try.prog 32 #[.agg #[.slice A n c], .string s] w fun e w' => e = .returned (.int .i64 (prE ws (bts s))) ∧ Below w.heap.size w w' := by
  have hlen := hr.len
  by_cases h0 : fitE ws (bts s) = 0
  · obtain ⟨q1, q2, q3, _⟩ := fitE_zero h0
    obtain ⟨z1, z2, z3, z4, z5⟩ := ruleE_zero q1
    obtain ⟨y1, y2⟩ := chkW_zero q2
    rw [bts_len] at y1
    rw [hlen] at q3
    have hR0 : prE ws (bts s) = if pfS ws (bts s) then 0 else 14 := by rw [prE, if_neg (by simpa using h0)]
    have h0H := Lib.hid h0
    have hput := Lib.hid (fun (w' : World) (B' : Nat) h1 h2 => put_any A n c ws s w' B' h1 h2 (by omega) q3 (by omega) (fun t ht => by have := (z5 t ht).1; omega))
    have hpl := putS_len (fun t ht => show t.size ≤ 13 by have := (z5 t ht).1; omega) (bts s)
    rw [bts_len] at hpl
    have hp6 : s.size * 13 ≤ 600 * 13 := Nat.mul_le_mul_right _ y1
    have hcl := Lib.hid (fun w' => clean_any ⟨(putS ws (bts s)).toArray⟩ (by show (putS ws (bts s)).length ≤ _; omega) w')
    have hcb : bts ⟨(putS ws (bts s)).toArray⟩ = putS ws (bts s) := rfl
    have hcs := Lib.hid (fun w' => clean_any s (by omega) w')
    cases hq : cleanS (bts s) with
    | false =>
      have hR := Lib.hid (show prE ws (bts s) = 14 by rw [hR0, pfS, hq]; rfl)
      have hqH := Lib.hid hq
      clear h0 q1 q2 q3 z5 y2 hpl hp6 hR0 hq
      go_enter Try.func32, Try.ntmps32
      go_wp2_with (first
        | (with_reducible show wpList _ _ _ (⟨_, .box 38 _, _, _, _, _⟩ :: _) _ _
           refine wpList_box_blk rfl 38 _ rfl #[.slice A n c] rfl ?_
           intro w1 g hG hgr hge
           have hk := Rk.box hB hr hG hgr
           have cg := hk.cell
           have hg := hk.bk.lt
           have hRB := hk.b
           clear hG hgr hge)
        | (with_reducible show wpList _ _ _ (⟨_, .load 38 _, _, _, _, _⟩ :: _) _ _
           refine wpList_load_blk rfl 38 _ rfl g rfl 38 #[.slice A n c] _ hk.bk Try.underlying38 rfl (info_oneP _) ?_)
        | (go_at_call 67; refine (fits_any A n c ws s _ B hRB hk.rs).mono ?_; rintro e w' ⟨rfl, hb'⟩; rw [h0H.out]
           replace hk := hk.call hb'
           have cg := hk.cell
           have hg := hk.bk.lt
           have hRB := hk.b
           clear hb')
        | (go_at_call 51; refine (hcs.out _).mono ?_; rintro e w' ⟨rfl, hb'⟩; rw [hqH.out]
           replace hk := hk.call hb'
           have cg := hk.cell
           have hg := hk.bk.lt
           have hRB := hk.b
           clear hb'))
      go_ret
      exact ⟨by rw [hR.out]; rfl, hk.be⟩
    | true =>
      obtain ⟨q, hp⟩ : ∃ q, cleanS (putS ws (bts s)) = q := ⟨_, rfl⟩
      have hR := Lib.hid (show prE ws (bts s) = if !q then 0 else 14 by rw [hR0, pfS, hq, hp]; rfl)
      have hqH := Lib.hid hq
      have hpH := Lib.hid hp
      clear h0 q1 q2 q3 z5 y2 hpl hp6 hR0 hq hp
      cases q
      all_goals
        go_enter Try.func32, Try.ntmps32
        go_wp2_with (first
          | (with_reducible show wpList _ _ _ (⟨_, .box 38 _, _, _, _, _⟩ :: _) _ _
             refine wpList_box_blk rfl 38 _ rfl #[.slice A n c] rfl ?_
             intro w1 g hG hgr hge
             have hk := Rk.box hB hr hG hgr
             have cg := hk.cell
             have hg := hk.bk.lt
             have hRB := hk.b
             have _k1 := hk
             clear hG hgr hge)
          | (with_reducible show wpList _ _ _ (⟨_, .load 38 _, _, _, _, _⟩ :: _) _ _
             refine wpList_load_blk rfl 38 _ rfl g rfl 38 #[.slice A n c] _ hk.bk Try.underlying38 rfl (info_oneP _) ?_)
          | (go_at_call 67; refine (fits_any A n c ws s _ B hRB hk.rs).mono ?_; rintro e w' ⟨rfl, hb'⟩; rw [h0H.out]
             replace hk := hk.call hb'
             have cg := hk.cell
             have hg := hk.bk.lt
             have hRB := hk.b
             clear hb')
          | (go_at_call 51; clear _k1; refine (hcs.out _).mono ?_; rintro e w' ⟨rfl, hb'⟩; rw [hqH.out]
             replace hk := hk.call hb'
             have cg := hk.cell
             have hg := hk.bk.lt
             have hRB := hk.b
             clear hb')
          | (go_at_call 68; refine (hput.out _ B hRB hk.rs).mono ?_; rintro e w' ⟨rfl, hb'⟩
             replace hk := hk.call hb'
             have cg := hk.cell
             have hg := hk.bk.lt
             have hRB := hk.b
             clear hb')
          | (go_at_call 51; refine (hcl.out _).mono ?_; rintro e w' ⟨rfl, hb'⟩; rw [hcb, hpH.out]
             replace hk := hk.call hb'
             have cg := hk.cell
             have hg := hk.bk.lt
             have hRB := hk.b
             clear hb'))
        go_ret
        exact ⟨by rw [hR.out]; rfl, hk.be⟩
  · have hR := Lib.hid (show prE ws (bts s) = fitE ws (bts s) by rw [prE, if_pos h0])
    have h0c : (fitE ws (bts s) == 0) = false := by simpa using h0
    clear h0
    go_enter Try.func32, Try.ntmps32
    go_wp2_with (first
      | (with_reducible show wpList _ _ _ (⟨_, .box 38 _, _, _, _, _⟩ :: _) _ _
         refine wpList_box_blk rfl 38 _ rfl #[.slice A n c] rfl ?_
         intro w1 g hG hgr hge
         have hk := Rk.box hB hr hG hgr
         have cg := hk.cell
         have hg := hk.bk.lt
         have hRB := hk.b
         clear hG hgr hge)
      | (with_reducible show wpList _ _ _ (⟨_, .load 38 _, _, _, _, _⟩ :: _) _ _
         refine wpList_load_blk rfl 38 _ rfl g rfl 38 #[.slice A n c] _ hk.bk Try.underlying38 rfl (info_oneP _) ?_)
      | (go_at_call 67; refine (fits_any A n c ws s _ B hRB hk.rs).mono ?_; rintro e w' ⟨rfl, hb'⟩
         replace hk := hk.call hb'
         have cg := hk.cell
         have hg := hk.bk.lt
         have hRB := hk.b
         clear hb'))
    go_ret
    exact ⟨by rw [hR.out]; rfl, hk.be⟩
set_option maxRecDepth 100000 in
set_option maxHeartbeats 4000000 in
theorem refProves_any (A : Option Addr) (n c : Nat) (ws : List ByteArray) (s : ByteArray) (w : World) (B : Nat) (hB : B ≤ w.heap.size) (hr : RStrs w B A n ws) :
    Calls Try.prog 33 #[.agg #[.slice A n c], .string s] w fun e w' => e = .returned (.int .i64 (prE ws (bts s))) ∧ Below w.heap.size w w' := by
  have hlen := hr.len
  by_cases h0 : fitE ws (bts s) = 0
  · obtain ⟨q1, q2, q3, _⟩ := fitE_zero h0
    obtain ⟨z1, z2, z3, z4, z5⟩ := ruleE_zero q1
    obtain ⟨y1, y2⟩ := chkW_zero q2
    rw [bts_len] at y1
    rw [hlen] at q3
    have hR0 : prE ws (bts s) = if pfS ws (bts s) then 0 else 14 := by rw [prE, if_neg (by simpa using h0)]
    have h0H := Lib.hid h0
    have hpf := Lib.hid (fun (w' : World) (B' : Nat) h1 h2 => proof_any A n c ws s w' B' h1 h2 (by omega) q3 (by omega) (fun t ht => by have := (z5 t ht).1; omega))
    obtain ⟨q, hq⟩ : ∃ q, pfS ws (bts s) = q := ⟨_, rfl⟩
    have hR := Lib.hid (show prE ws (bts s) = if q then 0 else 14 by rw [hR0, hq])
    have hqH := Lib.hid hq
    clear h0 q1 q2 q3 z5 y2 hR0 hq
    cases q
    all_goals
      go_enter Try.func33, Try.ntmps33
      go_wp2_with (first
        | (with_reducible show wpList _ _ _ (⟨_, .box 40 _, _, _, _, _⟩ :: _) _ _
           refine wpList_box_blk rfl 40 _ rfl #[.slice A n c] rfl ?_
           intro w1 g hG hgr hge
           have hk := Rk.box hB hr hG hgr
           have cg := hk.cell
           have hg := hk.bk.lt
           have hRB := hk.b
           clear hG hgr hge)
        | (with_reducible show wpList _ _ _ (⟨_, .load 40 _, _, _, _, _⟩ :: _) _ _
           refine wpList_load_blk rfl 40 _ rfl g rfl 40 #[.slice A n c] _ hk.bk Try.underlying40 rfl (info_oneR _) ?_)
        | (go_at_call 69; refine (refFits_any A n c ws s _ B hRB hk.rs).mono ?_; rintro e w' ⟨rfl, hb'⟩; rw [h0H.out]
           replace hk := hk.call hb'
           have cg := hk.cell
           have hg := hk.bk.lt
           have hRB := hk.b
           clear hb')
        | (go_at_call 73; refine (hpf.out _ B hRB hk.rs).mono ?_; rintro e w' ⟨rfl, hb'⟩; rw [hqH.out]
           replace hk := hk.call hb'
           have cg := hk.cell
           have hg := hk.bk.lt
           have hRB := hk.b
           clear hb'))
      go_ret
      exact ⟨by rw [hR.out]; rfl, hk.be⟩
  · have hR := Lib.hid (show prE ws (bts s) = fitE ws (bts s) by rw [prE, if_pos h0])
    have h0c : (fitE ws (bts s) == 0) = false := by simpa using h0
    clear h0
    go_enter Try.func33, Try.ntmps33
    go_wp2_with (first
      | (with_reducible show wpList _ _ _ (⟨_, .box 40 _, _, _, _, _⟩ :: _) _ _
         refine wpList_box_blk rfl 40 _ rfl #[.slice A n c] rfl ?_
         intro w1 g hG hgr hge
         have hk := Rk.box hB hr hG hgr
         have cg := hk.cell
         have hg := hk.bk.lt
         have hRB := hk.b
         clear hG hgr hge)
      | (with_reducible show wpList _ _ _ (⟨_, .load 40 _, _, _, _, _⟩ :: _) _ _
         refine wpList_load_blk rfl 40 _ rfl g rfl 40 #[.slice A n c] _ hk.bk Try.underlying40 rfl (info_oneR _) ?_)
      | (go_at_call 69; refine (refFits_any A n c ws s _ B hRB hk.rs).mono ?_; rintro e w' ⟨rfl, hb'⟩
         replace hk := hk.call hb'
         have cg := hk.cell
         have hg := hk.bk.lt
         have hRB := hk.b
         clear hb'))
    go_ret
    exact ⟨by rw [hR.out]; rfl, hk.be⟩
end Go.Proofs.Ytdaaiockkbolbaa
