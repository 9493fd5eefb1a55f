/- pattern.Check at points of the grid that differ. -/
import Derived.Test.YtkbfmogjhjdjmaaDoorDuEH
namespace Go.Proofs.YtkbfmogjhjdjmaaDoor
open Go.RowKit
namespace Du
set_option linter.unusedSimpArgs false
theorem drew_up {b w : World} (hw : Below b.drew.heap.size b.drew w) : Below b.heap.size b w := ⟨hw.os, hw.tape, hw.output, hw.size, hw.block⟩
set_option maxRecDepth 100000 in
set_option maxHeartbeats 2000000 in
theorem Check_ok (A : Option Addr) (n c : Nat) (o : List Pt) (hn : o.length = n) (h3 : 3 ≤ n) (h8 : n ≤ 8) (hcap : n ≤ c) (hI : In12 o) (hD : o.Nodup) (w : World) (hP : PtS w A o) :
    Calls Tryd.prog 6 #[.slice A n c] w fun e w' => e = .returned (.int .i64 (chkE o)) ∧ Below w.heap.size w w' := by
  obtain ⟨E, hE⟩ : ∃ E, chkE o = E := ⟨_, rfl⟩
  have hbad : Hid (∀ i, i < n → sideOk o i = false → E = 5) := fun i hi hs => hE ▸ chk_bad (o := o) (i := i) (hn ▸ hi) hs
  have hgood : Hid ((∀ i, i < n → sideOk o i = true) → E = 0) := fun h => hE ▸ chk_good (o := o) (fun i hi => h i (hn ▸ hi))
  rw [hE]
  have hlaid := Lib.hid (laid_ok A n c o hn h3 h8 hcap hI hD w hP)
  have hsm := Lib.hid (fun i => at_sm hI.sm (by omega) i)
  have hsd := Lib.hid (fun w' (hb : Below w.heap.size w w') i hi => side_nat A n c o hn (by omega) h8 w' (hP.below hb) i hi)
  have hsp := Lib.hid (fun w' (hb : Below w.heap.size w w') i hi => side_prev A n c o hn (by omega) h8 w' (hP.below hb) i hi)
  have hap : Hid (∀ i k, apartB o i k = (!decide (i - k < n - 1) || decide (meetsS (at' o i) (at' o (i + 1)) (at' o k) (at' o (k + 1)) = .none))) := fun i k => by unfold apartB; rw [hn]
  clear hE hI hD hP hn
  have h8i : (n : Int) ≤ 8 := by omega
  go_enter Tryd.func6, Tryd.ntmps6
  go_wp2_with (first
    | (go_at_call 17; (with_reducible refine hlaid.out.mono ?_); rintro e w1 ⟨rfl, hb1⟩))
  go_loopw [17] (fun v wr => ∃ k : Nat, k ≤ n ∧ v = .int .i64 k ∧ (∀ i, i < k → sideOk o i = true) ∧ Below w.heap.size w wr) (fun v _ => n - (intOf v).toNat)
  case atStart => exact ⟨0, by omega, rfl, fun i hi => absurd hi (by omega), hb1⟩
  case round =>
    obtain ⟨i, hi, rfl, hall, hb⟩ := hrel
    obtain ⟨wa, rfl⟩ : ∃ x, x = wr := ⟨wr, rfl⟩
    have hal := Lib.hid hall
    clear hall
    by_cases hlt : i < n
    · have hlti : (i : Int) < n := by omega
      obtain ⟨P, hPp⟩ : ∃ P, prev o i = P := ⟨_, rfl⟩
      obtain ⟨Q, hQ⟩ : ∃ P, at' o i = P := ⟨_, rfl⟩
      obtain ⟨R, hR⟩ : ∃ P, at' o (i + 1) = P := ⟨_, rfl⟩
      have s1 := Lib.hid (fun w' hb' => hsp.out w' hb' i hlt)
      have s2 := Lib.hid (fun w' hb' => hsd.out w' hb' i (by omega))
      have q1 : Sm 12 P := by rw [← hPp]; exact hsm.out (i + o.length - 1)
      have q2 := hsm.out i
      have q3 := hsm.out (i + 1)
      rw [hQ] at q2
      rw [hR] at q3
      rw [hPp, hQ] at s1
      rw [hQ, hR] at s2
      have u1 := Lib.hid (fun w' => has_ok P Q R q1 q2 q3 w')
      have u2 := Lib.hid (fun w' => has_ok Q R P q2 q3 q1 w')
      have hmt := Lib.hid (fun k w' => meets_ok Q R (at' o k) (at' o (k + 1)) q2 q3 (hsm.out k) (hsm.out (k + 1)) w')
      obtain ⟨x1, hx1⟩ : ∃ x, hasS P Q R = x := ⟨_, rfl⟩
      obtain ⟨x2, hx2⟩ : ∃ x, hasS Q R P = x := ⟨_, rfl⟩
      rw [hx1] at u1
      rw [hx2] at u2
      have hsg := Lib.hid (fun h1 h2 h => side_good (o := o) (i := i) (by rw [hPp, hQ, hR, hx1]; exact h1) (by rw [hPp, hQ, hR, hx2]; exact h2) h)
      have hsb : Hid (x1 = true ∨ x2 = true → sideOk o i = false) := fun h => by
        rw [sideOk_eq, hPp, hQ, hR, hx1, hx2]
        rcases h with h | h <;> simp [h]
      have hap2 := Lib.hid (fun k => hap.out i k)
      rw [hQ, hR] at hap2
      clear q1 q2 q3 hPp hQ hR hx1 hx2
      obtain ⟨a, b⟩ := P
      obtain ⟨p, q⟩ := Q
      obtain ⟨r, s⟩ := R
      cases x1 with
      | true =>
        go_wp2_with (first
          | (go_at_call 18; (with_reducible refine (s1.out _ hb).mono ?_); rintro e w2 ⟨rfl, hb2⟩
             have hbb2 := hb.trans (hb2.mono hb.size))
          | (go_at_call 18; (with_reducible refine (s2.out _ hbb2).mono ?_); rintro e w3 ⟨rfl, hb3⟩
             have hbb3 := hbb2.trans (hb3.mono hbb2.size))
          | (with_reducible show wpList _ _ _ (⟨some 6, .alloc 52, _, _, _, _⟩ :: _) _ _
             refine wpList_alloc_blk rfl 52 rfl _ zero_side ?_
             intro w4 g6 hG6 hgr4 hge4
             have hbb4 := below_none hbb3 hgr4 hbb3.size)
          | (with_reducible show wpList _ _ _ (⟨some 7, .alloc 52, _, _, _, _⟩ :: _) _ _
             refine wpList_alloc_blk rfl 52 rfl _ zero_side ?_
             intro w5 g7 hG7 hgr5 hge5
             have hbb5 := below_none hbb4 hgr5 hbb4.size
             have hG65 := hG6.none_ hgr5)
          | (with_reducible show wpList _ _ _ (⟨_, .store 52 (.tmp 6) _, _, _, _, _⟩ :: _) _ _
             refine wpList_store_blk rfl 52 _ _ rfl g6 #[.int .i64 a, .int .i64 b, .int .i64 p, .int .i64 q] rfl rfl 52 _ hG65 info_side rfl (by simp [Value.oneCell']) ?_
             intro w6 hG66 hgr6
             have hge6 : w.heap.size ≤ g6 := by have := hbb3.size; omega
             have hbb6 := below_some hbb5 hgr6 hbb5.size hge6
             have hG76 := hG7.some_ hgr6 (by have := hG6.lt; omega))
          | (with_reducible show wpList _ _ _ (⟨_, .store 52 (.tmp 7) _, _, _, _, _⟩ :: _) _ _
             refine wpList_store_blk rfl 52 _ _ rfl g7 #[.int .i64 p, .int .i64 q, .int .i64 r, .int .i64 s] rfl rfl 52 _ hG76 info_side rfl (by simp [Value.oneCell']) ?_
             intro w7 hG77 hgr7
             have hbb7 := below_some hbb6 hgr7 hbb6.size (by have := hbb4.size; omega)
             have hG67 := hG66.some_ hgr7 (by have := hG6.lt; omega)
             have c0 : w7.cell? ⟨g6, 0, none⟩ = some (.int .i64 a) := hG67.cell 0
             have c1 : w7.cell? ⟨g6, 1, none⟩ = some (.int .i64 b) := hG67.cell 1
             have c2 : w7.cell? ⟨g6, 2, none⟩ = some (.int .i64 p) := hG67.cell 2
             have c3 : w7.cell? ⟨g6, 3, none⟩ = some (.int .i64 q) := hG67.cell 3
             have d2 : w7.cell? ⟨g7, 2, none⟩ = some (.int .i64 r) := hG77.cell 2
             have d3 : w7.cell? ⟨g7, 3, none⟩ = some (.int .i64 s) := hG77.cell 3)
          | (go_at_call 19; (with_reducible refine (u1.out _).mono ?_); rintro e w8 ⟨rfl, hb8⟩
             have hbb8 := hbb7.trans (hb8.mono hbb7.size)
             have hG68 := hG67.callee hb8
             have hG78 := hG77.callee hb8
             have c0' : w8.cell? ⟨g6, 0, none⟩ = some (.int .i64 a) := hG68.cell 0
             have c1' : w8.cell? ⟨g6, 1, none⟩ = some (.int .i64 b) := hG68.cell 1
             have d0' : w8.cell? ⟨g7, 0, none⟩ = some (.int .i64 p) := hG78.cell 0
             have d1' : w8.cell? ⟨g7, 1, none⟩ = some (.int .i64 q) := hG78.cell 1
             have d2' : w8.cell? ⟨g7, 2, none⟩ = some (.int .i64 r) := hG78.cell 2
             have d3' : w8.cell? ⟨g7, 3, none⟩ = some (.int .i64 s) := hG78.cell 3)
          | (go_at_call 19; (with_reducible refine (u2.out _).mono ?_); rintro e w9 ⟨rfl, hb9⟩
             have hbb9 := hbb8.trans (hb9.mono hbb8.size)
             have hG79 := hG78.callee hb9))
        go_ret
        exact ⟨ret_int (hbad.out i hlt (hsb.out (Or.inl (by first | rfl | trivial)))).symm, hbb8⟩
      | false =>
      cases x2 with
      | true =>
        go_wp2_with (first
          | (go_at_call 18; (with_reducible refine (s1.out _ hb).mono ?_); rintro e w2 ⟨rfl, hb2⟩
             have hbb2 := hb.trans (hb2.mono hb.size))
          | (go_at_call 18; (with_reducible refine (s2.out _ hbb2).mono ?_); rintro e w3 ⟨rfl, hb3⟩
             have hbb3 := hbb2.trans (hb3.mono hbb2.size))
          | (with_reducible show wpList _ _ _ (⟨some 6, .alloc 52, _, _, _, _⟩ :: _) _ _
             refine wpList_alloc_blk rfl 52 rfl _ zero_side ?_
             intro w4 g6 hG6 hgr4 hge4
             have hbb4 := below_none hbb3 hgr4 hbb3.size)
          | (with_reducible show wpList _ _ _ (⟨some 7, .alloc 52, _, _, _, _⟩ :: _) _ _
             refine wpList_alloc_blk rfl 52 rfl _ zero_side ?_
             intro w5 g7 hG7 hgr5 hge5
             have hbb5 := below_none hbb4 hgr5 hbb4.size
             have hG65 := hG6.none_ hgr5)
          | (with_reducible show wpList _ _ _ (⟨_, .store 52 (.tmp 6) _, _, _, _, _⟩ :: _) _ _
             refine wpList_store_blk rfl 52 _ _ rfl g6 #[.int .i64 a, .int .i64 b, .int .i64 p, .int .i64 q] rfl rfl 52 _ hG65 info_side rfl (by simp [Value.oneCell']) ?_
             intro w6 hG66 hgr6
             have hge6 : w.heap.size ≤ g6 := by have := hbb3.size; omega
             have hbb6 := below_some hbb5 hgr6 hbb5.size hge6
             have hG76 := hG7.some_ hgr6 (by have := hG6.lt; omega))
          | (with_reducible show wpList _ _ _ (⟨_, .store 52 (.tmp 7) _, _, _, _, _⟩ :: _) _ _
             refine wpList_store_blk rfl 52 _ _ rfl g7 #[.int .i64 p, .int .i64 q, .int .i64 r, .int .i64 s] rfl rfl 52 _ hG76 info_side rfl (by simp [Value.oneCell']) ?_
             intro w7 hG77 hgr7
             have hbb7 := below_some hbb6 hgr7 hbb6.size (by have := hbb4.size; omega)
             have hG67 := hG66.some_ hgr7 (by have := hG6.lt; omega)
             have c0 : w7.cell? ⟨g6, 0, none⟩ = some (.int .i64 a) := hG67.cell 0
             have c1 : w7.cell? ⟨g6, 1, none⟩ = some (.int .i64 b) := hG67.cell 1
             have c2 : w7.cell? ⟨g6, 2, none⟩ = some (.int .i64 p) := hG67.cell 2
             have c3 : w7.cell? ⟨g6, 3, none⟩ = some (.int .i64 q) := hG67.cell 3
             have d2 : w7.cell? ⟨g7, 2, none⟩ = some (.int .i64 r) := hG77.cell 2
             have d3 : w7.cell? ⟨g7, 3, none⟩ = some (.int .i64 s) := hG77.cell 3)
          | (go_at_call 19; (with_reducible refine (u1.out _).mono ?_); rintro e w8 ⟨rfl, hb8⟩
             have hbb8 := hbb7.trans (hb8.mono hbb7.size)
             have hG68 := hG67.callee hb8
             have hG78 := hG77.callee hb8
             have c0' : w8.cell? ⟨g6, 0, none⟩ = some (.int .i64 a) := hG68.cell 0
             have c1' : w8.cell? ⟨g6, 1, none⟩ = some (.int .i64 b) := hG68.cell 1
             have d0' : w8.cell? ⟨g7, 0, none⟩ = some (.int .i64 p) := hG78.cell 0
             have d1' : w8.cell? ⟨g7, 1, none⟩ = some (.int .i64 q) := hG78.cell 1
             have d2' : w8.cell? ⟨g7, 2, none⟩ = some (.int .i64 r) := hG78.cell 2
             have d3' : w8.cell? ⟨g7, 3, none⟩ = some (.int .i64 s) := hG78.cell 3)
          | (go_at_call 19; (with_reducible refine (u2.out _).mono ?_); rintro e w9 ⟨rfl, hb9⟩
             have hbb9 := hbb8.trans (hb9.mono hbb8.size)
             have hG79 := hG78.callee hb9))
        go_ret
        exact ⟨ret_int (hbad.out i hlt (hsb.out (Or.inr (by first | rfl | trivial)))).symm, hbb9⟩
      | false =>
      go_wp2_with (first
        | (go_at_call 18; (with_reducible refine (s1.out _ hb).mono ?_); rintro e w2 ⟨rfl, hb2⟩
           have hbb2 := hb.trans (hb2.mono hb.size))
        | (go_at_call 18; (with_reducible refine (s2.out _ hbb2).mono ?_); rintro e w3 ⟨rfl, hb3⟩
           have hbb3 := hbb2.trans (hb3.mono hbb2.size))
        | (with_reducible show wpList _ _ _ (⟨some 6, .alloc 52, _, _, _, _⟩ :: _) _ _
           refine wpList_alloc_blk rfl 52 rfl _ zero_side ?_
           intro w4 g6 hG6 hgr4 hge4
           have hbb4 := below_none hbb3 hgr4 hbb3.size)
        | (with_reducible show wpList _ _ _ (⟨some 7, .alloc 52, _, _, _, _⟩ :: _) _ _
           refine wpList_alloc_blk rfl 52 rfl _ zero_side ?_
           intro w5 g7 hG7 hgr5 hge5
           have hbb5 := below_none hbb4 hgr5 hbb4.size
           have hG65 := hG6.none_ hgr5)
        | (with_reducible show wpList _ _ _ (⟨_, .store 52 (.tmp 6) _, _, _, _, _⟩ :: _) _ _
           refine wpList_store_blk rfl 52 _ _ rfl g6 #[.int .i64 a, .int .i64 b, .int .i64 p, .int .i64 q] rfl rfl 52 _ hG65 info_side rfl (by simp [Value.oneCell']) ?_
           intro w6 hG66 hgr6
           have hge6 : w.heap.size ≤ g6 := by have := hbb3.size; omega
           have hbb6 := below_some hbb5 hgr6 hbb5.size hge6
           have hG76 := hG7.some_ hgr6 (by have := hG6.lt; omega))
        | (with_reducible show wpList _ _ _ (⟨_, .store 52 (.tmp 7) _, _, _, _, _⟩ :: _) _ _
           refine wpList_store_blk rfl 52 _ _ rfl g7 #[.int .i64 p, .int .i64 q, .int .i64 r, .int .i64 s] rfl rfl 52 _ hG76 info_side rfl (by simp [Value.oneCell']) ?_
           intro w7 hG77 hgr7
           have hbb7 := below_some hbb6 hgr7 hbb6.size (by have := hbb4.size; omega)
           have hG67 := hG66.some_ hgr7 (by have := hG6.lt; omega)
           have c0 : w7.cell? ⟨g6, 0, none⟩ = some (.int .i64 a) := hG67.cell 0
           have c1 : w7.cell? ⟨g6, 1, none⟩ = some (.int .i64 b) := hG67.cell 1
           have c2 : w7.cell? ⟨g6, 2, none⟩ = some (.int .i64 p) := hG67.cell 2
           have c3 : w7.cell? ⟨g6, 3, none⟩ = some (.int .i64 q) := hG67.cell 3
           have d2 : w7.cell? ⟨g7, 2, none⟩ = some (.int .i64 r) := hG77.cell 2
           have d3 : w7.cell? ⟨g7, 3, none⟩ = some (.int .i64 s) := hG77.cell 3)
        | (go_at_call 19; (with_reducible refine (u1.out _).mono ?_); rintro e w8 ⟨rfl, hb8⟩
           have hbb8 := hbb7.trans (hb8.mono hbb7.size)
           have hG68 := hG67.callee hb8
           have hG78 := hG77.callee hb8
           have c0' : w8.cell? ⟨g6, 0, none⟩ = some (.int .i64 a) := hG68.cell 0
           have c1' : w8.cell? ⟨g6, 1, none⟩ = some (.int .i64 b) := hG68.cell 1
           have d0' : w8.cell? ⟨g7, 0, none⟩ = some (.int .i64 p) := hG78.cell 0
           have d1' : w8.cell? ⟨g7, 1, none⟩ = some (.int .i64 q) := hG78.cell 1
           have d2' : w8.cell? ⟨g7, 2, none⟩ = some (.int .i64 r) := hG78.cell 2
           have d3' : w8.cell? ⟨g7, 3, none⟩ = some (.int .i64 s) := hG78.cell 3)
        | (go_at_call 19; (with_reducible refine (u2.out _).mono ?_); rintro e w9 ⟨rfl, hb9⟩
           have hbb9 := hbb8.trans (hb9.mono hbb8.size)
           have hG79 := hG78.callee hb9))
      clear c0 c1 c2 c3 d2 d3 c0' c1' d0' d1' d2' d3'
      go_loopw [39] (fun v wr => ∃ k : Nat, v = .int .i64 k ∧ (∀ x, x < k → x < i - 1 → apartB o i x = true) ∧ Below w9.heap.size w9 wr) (fun v _ => i - (intOf v).toNat)
      case atStart => exact ⟨0, rfl, fun x hx => absurd hx (by omega), Below.refl _ _⟩
      case round =>
        obtain ⟨k, rfl, hpre, hbk⟩ := hrel
        obtain ⟨wc, rfl⟩ : ∃ x, x = wr := ⟨wr, rfl⟩
        have hpr := Lib.hid hpre
        clear hpre
        have hbc := hbb9.trans (hbk.mono hbb9.size)
        have hG7c := hG79.callee hbk
        by_cases hki : (k : Int) < (i : Int) - 1
        · have hki2 : k < i - 1 := by omega
          have hap3 := hap2.out k
          have m1 := Lib.hid (hmt.out k)
          have sk := Lib.hid (fun w' hb' => hsd.out w' hb' k (by omega))
          obtain ⟨M, hM⟩ : ∃ M, meetsS (p, q) (r, s) (at' o k) (at' o (k + 1)) = M := ⟨_, rfl⟩
          rw [hM] at hap3 m1
          clear hM
          obtain ⟨T, hT⟩ : ∃ P, at' o k = P := ⟨_, rfl⟩
          obtain ⟨U, hU⟩ : ∃ P, at' o (k + 1) = P := ⟨_, rfl⟩
          rw [hT, hU] at m1 sk
          clear hT hU
          obtain ⟨t1, t2⟩ := T
          obtain ⟨v1, v2⟩ := U
          have hC : Hid (∀ w', Below wc.drew.heap.size wc.drew w' → w'.cell? ⟨g7, 0, none⟩ = some (.int .i64 p) ∧ w'.cell? ⟨g7, 1, none⟩ = some (.int .i64 q) ∧ w'.cell? ⟨g7, 2, none⟩ = some (.int .i64 r) ∧ w'.cell? ⟨g7, 3, none⟩ = some (.int .i64 s)) := fun w' hw => by
            have hB := hG7c.drew.callee hw
            exact ⟨hB.cell 0, hB.cell 1, hB.cell 2, hB.cell 3⟩
          have hcall : Hid (∀ w', Below wc.drew.heap.size wc.drew w' → Calls Tryd.prog 18 #[.slice A n c, .int .i64 k] w' fun e w'' => e = .returned (sdV (t1, t2) (v1, v2)) ∧ Below w'.heap.size w' w'') := fun w' hw =>
            sk.out w' (hbc.trans ((drew_up hw).mono hbc.size))
          by_cases hd : i - k < n - 1
          · have hd1 : (i : Int) - k < (n : Int) - 1 := by omega
            have hdd : decide ((i : Int) - k < (n : Int) - 1) = true := decide_eq_true hd1
            have hap4 : apartB o i k = decide (M = .none) := by rw [hap3, decide_eq_true hd]; rfl
            have hA := Lib.hid hap4
            clear hap3 hap4
            have e1 : IntKind.i64.wrap ((i : Int) - k) = (i : Int) - k := IntWalk.i64_in _ (by omega)
            have e2 : IntKind.i64.wrap ((n : Int) - 1) = (n : Int) - 1 := IntWalk.i64_in _ (by omega)
            replace e1 := Lib.hid e1
            replace e2 := Lib.hid e2
            cases M with
            | none =>
              simp only [metV] at m1
              go_wp2_with (fail)
              replace e1 := e1.out
              replace e2 := e2.out
              refine De.region_det (by kernel_rfl) (by kernel_rfl) ?_
              refine De.Det.read (o := ?o1) (v := ?v1) 0 ?q1 (by kernel_rfl) (by kernel_rfl) ?w1 ?y1 ?h1
              case q1 => (simp only [List.getElem?_toArray, List.getElem?_cons_succ, List.getElem?_cons_zero]; rfl)
              case w1 => kernel_rfl
              case y1 => (intro w' hw'; obtain ⟨c1, c2, c3, c4⟩ := hC.out w' hw'; go_simp; (try with_reducible rfl))
              (try simp only [Act.put, List.setIfInBounds_toArray, List.set_cons_zero, List.set_cons_succ])
              refine De.Det.read (o := ?o2) (v := ?v2) 1 ?q2 (by kernel_rfl) (by kernel_rfl) ?w2 ?y2 ?h2
              case q2 => (simp only [List.getElem?_toArray, List.getElem?_cons_succ, List.getElem?_cons_zero]; rfl)
              case w2 => kernel_rfl
              case y2 => (intro w' hw'; obtain ⟨c1, c2, c3, c4⟩ := hC.out w' hw'; go_simp; (try with_reducible rfl))
              (try simp only [Act.put, List.setIfInBounds_toArray, List.set_cons_zero, List.set_cons_succ])
              refine De.Det.read (o := ?o3) (v := ?v3) 2 ?q3 (by kernel_rfl) (by kernel_rfl) ?w3 ?y3 ?h3
              case q3 => (simp only [List.getElem?_toArray, List.getElem?_cons_succ, List.getElem?_cons_zero]; rfl)
              case w3 => kernel_rfl
              case y3 => (intro w' hw'; obtain ⟨c1, c2, c3, c4⟩ := hC.out w' hw'; go_simp; (try with_reducible rfl))
              (try simp only [Act.put, List.setIfInBounds_toArray, List.set_cons_zero, List.set_cons_succ])
              refine De.Det.read (o := ?o4) (v := ?v4) 3 ?q4 (by kernel_rfl) (by kernel_rfl) ?w4 ?y4 ?h4
              case q4 => (simp only [List.getElem?_toArray, List.getElem?_cons_succ, List.getElem?_cons_zero]; rfl)
              case w4 => kernel_rfl
              case y4 => (intro w' hw'; obtain ⟨c1, c2, c3, c4⟩ := hC.out w' hw'; go_simp; (try with_reducible rfl))
              (try simp only [Act.put, List.setIfInBounds_toArray, List.set_cons_zero, List.set_cons_succ])
              refine De.Det.read (o := ?o5) (v := ?v5) 4 ?q5 (by kernel_rfl) (by kernel_rfl) ?w5 ?y5 ?h5
              case q5 => (simp only [List.getElem?_toArray, List.getElem?_cons_succ, List.getElem?_cons_zero]; rfl)
              case w5 => kernel_rfl
              case y5 => (intro w' hw'; obtain ⟨c1, c2, c3, c4⟩ := hC.out w' hw'; go_simp; (try with_reducible rfl))
              (try simp only [Act.put, List.setIfInBounds_toArray, List.set_cons_zero, List.set_cons_succ])
              refine De.Det.read (o := ?o6) (v := ?v6) 5 ?q6 (by kernel_rfl) (by kernel_rfl) ?w6 ?y6 ?h6
              case q6 => (simp only [List.getElem?_toArray, List.getElem?_cons_succ, List.getElem?_cons_zero]; rfl)
              case w6 => kernel_rfl
              case y6 => (intro w' hw'; obtain ⟨c1, c2, c3, c4⟩ := hC.out w' hw'; go_simp; (try with_reducible rfl))
              (try simp only [Act.put, List.setIfInBounds_toArray, List.set_cons_zero, List.set_cons_succ])
              refine De.Det.read (o := ?o7) (v := ?v7) 6 ?q7 (by kernel_rfl) (by kernel_rfl) ?w7 ?y7 ?h7
              case q7 => (simp only [List.getElem?_toArray, List.getElem?_cons_succ, List.getElem?_cons_zero]; rfl)
              case w7 => kernel_rfl
              case y7 => (intro w' hw'; obtain ⟨c1, c2, c3, c4⟩ := hC.out w' hw'; go_simp; (try with_reducible rfl))
              (try simp only [Act.put, List.setIfInBounds_toArray, List.set_cons_zero, List.set_cons_succ])
              refine De.Det.read (o := ?o8) (v := ?v8) 7 ?q8 (by kernel_rfl) (by kernel_rfl) ?w8 ?y8 ?h8
              case q8 => (simp only [List.getElem?_toArray, List.getElem?_cons_succ, List.getElem?_cons_zero]; rfl)
              case w8 => kernel_rfl
              case y8 => (intro w' hw'; obtain ⟨c1, c2, c3, c4⟩ := hC.out w' hw'; go_simp; (try with_reducible rfl))
              (try simp only [Act.put, List.setIfInBounds_toArray, List.set_cons_zero, List.set_cons_succ])
              refine De.Det.read (o := ?o9) (v := ?v9) 8 ?q9 (by kernel_rfl) (by kernel_rfl) ?w9 ?y9 ?h9
              case q9 => (simp only [List.getElem?_toArray, List.getElem?_cons_succ, List.getElem?_cons_zero]; rfl)
              case w9 => kernel_rfl
              case y9 => (intro w' hw'; obtain ⟨c1, c2, c3, c4⟩ := hC.out w' hw'; go_simp; (try with_reducible rfl))
              (try simp only [Act.put, List.setIfInBounds_toArray, List.set_cons_zero, List.set_cons_succ])
              refine De.Det.read (o := ?o10) (v := ?v10) 9 ?q10 (by kernel_rfl) (by kernel_rfl) ?w10 ?y10 ?h10
              case q10 => (simp only [List.getElem?_toArray, List.getElem?_cons_succ, List.getElem?_cons_zero]; rfl)
              case w10 => kernel_rfl
              case y10 => (intro w' hw'; obtain ⟨c1, c2, c3, c4⟩ := hC.out w' hw'; go_simp; (try with_reducible rfl))
              (try simp only [Act.put, List.setIfInBounds_toArray, List.set_cons_zero, List.set_cons_succ])
              refine De.Det.read (o := ?o11) (v := ?v11) 10 ?q11 (by kernel_rfl) (by kernel_rfl) ?w11 ?y11 ?h11
              case q11 => (simp only [List.getElem?_toArray, List.getElem?_cons_succ, List.getElem?_cons_zero]; rfl)
              case w11 => kernel_rfl
              case y11 => (intro w' hw'; obtain ⟨c1, c2, c3, c4⟩ := hC.out w' hw'; go_simp; (try with_reducible rfl))
              (try simp only [Act.put, List.setIfInBounds_toArray, List.set_cons_zero, List.set_cons_succ])
              refine De.Det.call (o := ?o12) (v := ?v12) (f := ?f12) (args := ?g12) 11 ?q12 (by kernel_rfl) (by kernel_rfl) ?w12 ?e12 ?c12 ?h12
              case q12 => (simp only [List.getElem?_toArray, List.getElem?_cons_succ, List.getElem?_cons_zero]; rfl)
              case w12 => kernel_rfl
              case e12 => (intro w'; go_simp; refine ⟨?_, ?_⟩ <;> with_reducible rfl)
              case c12 => (intro w' hw'; exact (hcall.out w' hw'))
              (try simp only [Act.put, List.setIfInBounds_toArray, List.set_cons_zero, List.set_cons_succ])
              refine De.Det.call (o := ?o13) (v := ?v13) (f := ?f13) (args := ?g13) 12 ?q13 (by kernel_rfl) (by kernel_rfl) ?w13 ?e13 ?c13 ?h13
              case q13 => (simp only [List.getElem?_toArray, List.getElem?_cons_succ, List.getElem?_cons_zero]; rfl)
              case w13 => kernel_rfl
              case e13 => (intro w'; go_simp; refine ⟨?_, ?_⟩ <;> with_reducible rfl)
              case c13 => (intro w' hw'; exact (m1.out w'))
              (try simp only [Act.put, List.setIfInBounds_toArray, List.set_cons_zero, List.set_cons_succ])
              refine De.Det.read (o := ?o14) (v := ?v14) 13 ?q14 (by kernel_rfl) (by kernel_rfl) ?w14 ?y14 ?h14
              case q14 => (simp only [List.getElem?_toArray, List.getElem?_cons_succ, List.getElem?_cons_zero]; rfl)
              case w14 => kernel_rfl
              case y14 => (intro w' hw'; obtain ⟨c1, c2, c3, c4⟩ := hC.out w' hw'; go_simp; (try with_reducible rfl))
              (try simp only [Act.put, List.setIfInBounds_toArray, List.set_cons_zero, List.set_cons_succ])
              refine De.Det.read (o := ?o15) (v := ?v15) 14 ?q15 (by kernel_rfl) (by kernel_rfl) ?w15 ?y15 ?h15
              case q15 => (simp only [List.getElem?_toArray, List.getElem?_cons_succ, List.getElem?_cons_zero]; rfl)
              case w15 => kernel_rfl
              case y15 => (intro w' hw'; obtain ⟨c1, c2, c3, c4⟩ := hC.out w' hw'; go_simp; (try with_reducible rfl))
              (try simp only [Act.put, List.setIfInBounds_toArray, List.set_cons_zero, List.set_cons_succ])
              refine De.Det.base ?_
              refine De.Det2.done (by kernel_rfl) ?_
              rintro w10 ⟨hb_w10, hO_w10⟩
              clear hO_w10
              clear e1 e2
              have hbx := hbk.trans ((drew_up hb_w10).mono hbk.size)
              go_wp2_with (fail)
              go_roundw
              case rel => exact ⟨k + 1, by go_num, fun x hx hx2 => by
                rcases Nat.lt_or_ge x k with h | h
                · exact hpr.out x h hx2
                · obtain rfl : x = k := by omega
                  rw [hA.out]; rfl, hbx⟩
              case measure => simp [intOf]; omega
            | cross =>
              simp only [metV] at m1
              go_wp2_with (fail)
              replace e1 := e1.out
              replace e2 := e2.out
              refine De.region_det (by kernel_rfl) (by kernel_rfl) ?_
              refine De.Det.read (o := ?o16) (v := ?v16) 0 ?q16 (by kernel_rfl) (by kernel_rfl) ?w16 ?y16 ?h16
              case q16 => (simp only [List.getElem?_toArray, List.getElem?_cons_succ, List.getElem?_cons_zero]; rfl)
              case w16 => kernel_rfl
              case y16 => (intro w' hw'; obtain ⟨c1, c2, c3, c4⟩ := hC.out w' hw'; go_simp; (try with_reducible rfl))
              (try simp only [Act.put, List.setIfInBounds_toArray, List.set_cons_zero, List.set_cons_succ])
              refine De.Det.read (o := ?o17) (v := ?v17) 1 ?q17 (by kernel_rfl) (by kernel_rfl) ?w17 ?y17 ?h17
              case q17 => (simp only [List.getElem?_toArray, List.getElem?_cons_succ, List.getElem?_cons_zero]; rfl)
              case w17 => kernel_rfl
              case y17 => (intro w' hw'; obtain ⟨c1, c2, c3, c4⟩ := hC.out w' hw'; go_simp; (try with_reducible rfl))
              (try simp only [Act.put, List.setIfInBounds_toArray, List.set_cons_zero, List.set_cons_succ])
              refine De.Det.read (o := ?o18) (v := ?v18) 2 ?q18 (by kernel_rfl) (by kernel_rfl) ?w18 ?y18 ?h18
              case q18 => (simp only [List.getElem?_toArray, List.getElem?_cons_succ, List.getElem?_cons_zero]; rfl)
              case w18 => kernel_rfl
              case y18 => (intro w' hw'; obtain ⟨c1, c2, c3, c4⟩ := hC.out w' hw'; go_simp; (try with_reducible rfl))
              (try simp only [Act.put, List.setIfInBounds_toArray, List.set_cons_zero, List.set_cons_succ])
              refine De.Det.read (o := ?o19) (v := ?v19) 3 ?q19 (by kernel_rfl) (by kernel_rfl) ?w19 ?y19 ?h19
              case q19 => (simp only [List.getElem?_toArray, List.getElem?_cons_succ, List.getElem?_cons_zero]; rfl)
              case w19 => kernel_rfl
              case y19 => (intro w' hw'; obtain ⟨c1, c2, c3, c4⟩ := hC.out w' hw'; go_simp; (try with_reducible rfl))
              (try simp only [Act.put, List.setIfInBounds_toArray, List.set_cons_zero, List.set_cons_succ])
              refine De.Det.read (o := ?o20) (v := ?v20) 4 ?q20 (by kernel_rfl) (by kernel_rfl) ?w20 ?y20 ?h20
              case q20 => (simp only [List.getElem?_toArray, List.getElem?_cons_succ, List.getElem?_cons_zero]; rfl)
              case w20 => kernel_rfl
              case y20 => (intro w' hw'; obtain ⟨c1, c2, c3, c4⟩ := hC.out w' hw'; go_simp; (try with_reducible rfl))
              (try simp only [Act.put, List.setIfInBounds_toArray, List.set_cons_zero, List.set_cons_succ])
              refine De.Det.read (o := ?o21) (v := ?v21) 5 ?q21 (by kernel_rfl) (by kernel_rfl) ?w21 ?y21 ?h21
              case q21 => (simp only [List.getElem?_toArray, List.getElem?_cons_succ, List.getElem?_cons_zero]; rfl)
              case w21 => kernel_rfl
              case y21 => (intro w' hw'; obtain ⟨c1, c2, c3, c4⟩ := hC.out w' hw'; go_simp; (try with_reducible rfl))
              (try simp only [Act.put, List.setIfInBounds_toArray, List.set_cons_zero, List.set_cons_succ])
              refine De.Det.read (o := ?o22) (v := ?v22) 6 ?q22 (by kernel_rfl) (by kernel_rfl) ?w22 ?y22 ?h22
              case q22 => (simp only [List.getElem?_toArray, List.getElem?_cons_succ, List.getElem?_cons_zero]; rfl)
              case w22 => kernel_rfl
              case y22 => (intro w' hw'; obtain ⟨c1, c2, c3, c4⟩ := hC.out w' hw'; go_simp; (try with_reducible rfl))
              (try simp only [Act.put, List.setIfInBounds_toArray, List.set_cons_zero, List.set_cons_succ])
              refine De.Det.read (o := ?o23) (v := ?v23) 7 ?q23 (by kernel_rfl) (by kernel_rfl) ?w23 ?y23 ?h23
              case q23 => (simp only [List.getElem?_toArray, List.getElem?_cons_succ, List.getElem?_cons_zero]; rfl)
              case w23 => kernel_rfl
              case y23 => (intro w' hw'; obtain ⟨c1, c2, c3, c4⟩ := hC.out w' hw'; go_simp; (try with_reducible rfl))
              (try simp only [Act.put, List.setIfInBounds_toArray, List.set_cons_zero, List.set_cons_succ])
              refine De.Det.read (o := ?o24) (v := ?v24) 8 ?q24 (by kernel_rfl) (by kernel_rfl) ?w24 ?y24 ?h24
              case q24 => (simp only [List.getElem?_toArray, List.getElem?_cons_succ, List.getElem?_cons_zero]; rfl)
              case w24 => kernel_rfl
              case y24 => (intro w' hw'; obtain ⟨c1, c2, c3, c4⟩ := hC.out w' hw'; go_simp; (try with_reducible rfl))
              (try simp only [Act.put, List.setIfInBounds_toArray, List.set_cons_zero, List.set_cons_succ])
              refine De.Det.read (o := ?o25) (v := ?v25) 9 ?q25 (by kernel_rfl) (by kernel_rfl) ?w25 ?y25 ?h25
              case q25 => (simp only [List.getElem?_toArray, List.getElem?_cons_succ, List.getElem?_cons_zero]; rfl)
              case w25 => kernel_rfl
              case y25 => (intro w' hw'; obtain ⟨c1, c2, c3, c4⟩ := hC.out w' hw'; go_simp; (try with_reducible rfl))
              (try simp only [Act.put, List.setIfInBounds_toArray, List.set_cons_zero, List.set_cons_succ])
              refine De.Det.read (o := ?o26) (v := ?v26) 10 ?q26 (by kernel_rfl) (by kernel_rfl) ?w26 ?y26 ?h26
              case q26 => (simp only [List.getElem?_toArray, List.getElem?_cons_succ, List.getElem?_cons_zero]; rfl)
              case w26 => kernel_rfl
              case y26 => (intro w' hw'; obtain ⟨c1, c2, c3, c4⟩ := hC.out w' hw'; go_simp; (try with_reducible rfl))
              (try simp only [Act.put, List.setIfInBounds_toArray, List.set_cons_zero, List.set_cons_succ])
              refine De.Det.call (o := ?o27) (v := ?v27) (f := ?f27) (args := ?g27) 11 ?q27 (by kernel_rfl) (by kernel_rfl) ?w27 ?e27 ?c27 ?h27
              case q27 => (simp only [List.getElem?_toArray, List.getElem?_cons_succ, List.getElem?_cons_zero]; rfl)
              case w27 => kernel_rfl
              case e27 => (intro w'; go_simp; refine ⟨?_, ?_⟩ <;> with_reducible rfl)
              case c27 => (intro w' hw'; exact (hcall.out w' hw'))
              (try simp only [Act.put, List.setIfInBounds_toArray, List.set_cons_zero, List.set_cons_succ])
              refine De.Det.call (o := ?o28) (v := ?v28) (f := ?f28) (args := ?g28) 12 ?q28 (by kernel_rfl) (by kernel_rfl) ?w28 ?e28 ?c28 ?h28
              case q28 => (simp only [List.getElem?_toArray, List.getElem?_cons_succ, List.getElem?_cons_zero]; rfl)
              case w28 => kernel_rfl
              case e28 => (intro w'; go_simp; refine ⟨?_, ?_⟩ <;> with_reducible rfl)
              case c28 => (intro w' hw'; exact (m1.out w'))
              (try simp only [Act.put, List.setIfInBounds_toArray, List.set_cons_zero, List.set_cons_succ])
              refine De.Det.read (o := ?o29) (v := ?v29) 13 ?q29 (by kernel_rfl) (by kernel_rfl) ?w29 ?y29 ?h29
              case q29 => (simp only [List.getElem?_toArray, List.getElem?_cons_succ, List.getElem?_cons_zero]; rfl)
              case w29 => kernel_rfl
              case y29 => (intro w' hw'; obtain ⟨c1, c2, c3, c4⟩ := hC.out w' hw'; go_simp; (try with_reducible rfl))
              (try simp only [Act.put, List.setIfInBounds_toArray, List.set_cons_zero, List.set_cons_succ])
              refine De.Det.read (o := ?o30) (v := ?v30) 14 ?q30 (by kernel_rfl) (by kernel_rfl) ?w30 ?y30 ?h30
              case q30 => (simp only [List.getElem?_toArray, List.getElem?_cons_succ, List.getElem?_cons_zero]; rfl)
              case w30 => kernel_rfl
              case y30 => (intro w' hw'; obtain ⟨c1, c2, c3, c4⟩ := hC.out w' hw'; go_simp; (try with_reducible rfl))
              (try simp only [Act.put, List.setIfInBounds_toArray, List.set_cons_zero, List.set_cons_succ])
              refine De.Det.base ?_
              refine De.Det2.done (by kernel_rfl) ?_
              rintro w10 ⟨hb_w10, hO_w10⟩
              clear hO_w10
              clear e1 e2
              have hbx := hbc.trans ((drew_up hb_w10).mono hbc.size)
              go_wp2_with (fail)
              go_ret
              exact ⟨ret_int (hbad.out i hlt (side_bad hki2 (by rw [hA.out]; rfl))).symm, hbx⟩
            | pt z =>
              simp only [metV] at m1
              go_wp2_with (fail)
              replace e1 := e1.out
              replace e2 := e2.out
              refine De.region_det (by kernel_rfl) (by kernel_rfl) ?_
              refine De.Det.read (o := ?o31) (v := ?v31) 0 ?q31 (by kernel_rfl) (by kernel_rfl) ?w31 ?y31 ?h31
              case q31 => (simp only [List.getElem?_toArray, List.getElem?_cons_succ, List.getElem?_cons_zero]; rfl)
              case w31 => kernel_rfl
              case y31 => (intro w' hw'; obtain ⟨c1, c2, c3, c4⟩ := hC.out w' hw'; go_simp; (try with_reducible rfl))
              (try simp only [Act.put, List.setIfInBounds_toArray, List.set_cons_zero, List.set_cons_succ])
              refine De.Det.read (o := ?o32) (v := ?v32) 1 ?q32 (by kernel_rfl) (by kernel_rfl) ?w32 ?y32 ?h32
              case q32 => (simp only [List.getElem?_toArray, List.getElem?_cons_succ, List.getElem?_cons_zero]; rfl)
              case w32 => kernel_rfl
              case y32 => (intro w' hw'; obtain ⟨c1, c2, c3, c4⟩ := hC.out w' hw'; go_simp; (try with_reducible rfl))
              (try simp only [Act.put, List.setIfInBounds_toArray, List.set_cons_zero, List.set_cons_succ])
              refine De.Det.read (o := ?o33) (v := ?v33) 2 ?q33 (by kernel_rfl) (by kernel_rfl) ?w33 ?y33 ?h33
              case q33 => (simp only [List.getElem?_toArray, List.getElem?_cons_succ, List.getElem?_cons_zero]; rfl)
              case w33 => kernel_rfl
              case y33 => (intro w' hw'; obtain ⟨c1, c2, c3, c4⟩ := hC.out w' hw'; go_simp; (try with_reducible rfl))
              (try simp only [Act.put, List.setIfInBounds_toArray, List.set_cons_zero, List.set_cons_succ])
              refine De.Det.read (o := ?o34) (v := ?v34) 3 ?q34 (by kernel_rfl) (by kernel_rfl) ?w34 ?y34 ?h34
              case q34 => (simp only [List.getElem?_toArray, List.getElem?_cons_succ, List.getElem?_cons_zero]; rfl)
              case w34 => kernel_rfl
              case y34 => (intro w' hw'; obtain ⟨c1, c2, c3, c4⟩ := hC.out w' hw'; go_simp; (try with_reducible rfl))
              (try simp only [Act.put, List.setIfInBounds_toArray, List.set_cons_zero, List.set_cons_succ])
              refine De.Det.read (o := ?o35) (v := ?v35) 4 ?q35 (by kernel_rfl) (by kernel_rfl) ?w35 ?y35 ?h35
              case q35 => (simp only [List.getElem?_toArray, List.getElem?_cons_succ, List.getElem?_cons_zero]; rfl)
              case w35 => kernel_rfl
              case y35 => (intro w' hw'; obtain ⟨c1, c2, c3, c4⟩ := hC.out w' hw'; go_simp; (try with_reducible rfl))
              (try simp only [Act.put, List.setIfInBounds_toArray, List.set_cons_zero, List.set_cons_succ])
              refine De.Det.read (o := ?o36) (v := ?v36) 5 ?q36 (by kernel_rfl) (by kernel_rfl) ?w36 ?y36 ?h36
              case q36 => (simp only [List.getElem?_toArray, List.getElem?_cons_succ, List.getElem?_cons_zero]; rfl)
              case w36 => kernel_rfl
              case y36 => (intro w' hw'; obtain ⟨c1, c2, c3, c4⟩ := hC.out w' hw'; go_simp; (try with_reducible rfl))
              (try simp only [Act.put, List.setIfInBounds_toArray, List.set_cons_zero, List.set_cons_succ])
              refine De.Det.read (o := ?o37) (v := ?v37) 6 ?q37 (by kernel_rfl) (by kernel_rfl) ?w37 ?y37 ?h37
              case q37 => (simp only [List.getElem?_toArray, List.getElem?_cons_succ, List.getElem?_cons_zero]; rfl)
              case w37 => kernel_rfl
              case y37 => (intro w' hw'; obtain ⟨c1, c2, c3, c4⟩ := hC.out w' hw'; go_simp; (try with_reducible rfl))
              (try simp only [Act.put, List.setIfInBounds_toArray, List.set_cons_zero, List.set_cons_succ])
              refine De.Det.read (o := ?o38) (v := ?v38) 7 ?q38 (by kernel_rfl) (by kernel_rfl) ?w38 ?y38 ?h38
              case q38 => (simp only [List.getElem?_toArray, List.getElem?_cons_succ, List.getElem?_cons_zero]; rfl)
              case w38 => kernel_rfl
              case y38 => (intro w' hw'; obtain ⟨c1, c2, c3, c4⟩ := hC.out w' hw'; go_simp; (try with_reducible rfl))
              (try simp only [Act.put, List.setIfInBounds_toArray, List.set_cons_zero, List.set_cons_succ])
              refine De.Det.read (o := ?o39) (v := ?v39) 8 ?q39 (by kernel_rfl) (by kernel_rfl) ?w39 ?y39 ?h39
              case q39 => (simp only [List.getElem?_toArray, List.getElem?_cons_succ, List.getElem?_cons_zero]; rfl)
              case w39 => kernel_rfl
              case y39 => (intro w' hw'; obtain ⟨c1, c2, c3, c4⟩ := hC.out w' hw'; go_simp; (try with_reducible rfl))
              (try simp only [Act.put, List.setIfInBounds_toArray, List.set_cons_zero, List.set_cons_succ])
              refine De.Det.read (o := ?o40) (v := ?v40) 9 ?q40 (by kernel_rfl) (by kernel_rfl) ?w40 ?y40 ?h40
              case q40 => (simp only [List.getElem?_toArray, List.getElem?_cons_succ, List.getElem?_cons_zero]; rfl)
              case w40 => kernel_rfl
              case y40 => (intro w' hw'; obtain ⟨c1, c2, c3, c4⟩ := hC.out w' hw'; go_simp; (try with_reducible rfl))
              (try simp only [Act.put, List.setIfInBounds_toArray, List.set_cons_zero, List.set_cons_succ])
              refine De.Det.read (o := ?o41) (v := ?v41) 10 ?q41 (by kernel_rfl) (by kernel_rfl) ?w41 ?y41 ?h41
              case q41 => (simp only [List.getElem?_toArray, List.getElem?_cons_succ, List.getElem?_cons_zero]; rfl)
              case w41 => kernel_rfl
              case y41 => (intro w' hw'; obtain ⟨c1, c2, c3, c4⟩ := hC.out w' hw'; go_simp; (try with_reducible rfl))
              (try simp only [Act.put, List.setIfInBounds_toArray, List.set_cons_zero, List.set_cons_succ])
              refine De.Det.call (o := ?o42) (v := ?v42) (f := ?f42) (args := ?g42) 11 ?q42 (by kernel_rfl) (by kernel_rfl) ?w42 ?e42 ?c42 ?h42
              case q42 => (simp only [List.getElem?_toArray, List.getElem?_cons_succ, List.getElem?_cons_zero]; rfl)
              case w42 => kernel_rfl
              case e42 => (intro w'; go_simp; refine ⟨?_, ?_⟩ <;> with_reducible rfl)
              case c42 => (intro w' hw'; exact (hcall.out w' hw'))
              (try simp only [Act.put, List.setIfInBounds_toArray, List.set_cons_zero, List.set_cons_succ])
              refine De.Det.call (o := ?o43) (v := ?v43) (f := ?f43) (args := ?g43) 12 ?q43 (by kernel_rfl) (by kernel_rfl) ?w43 ?e43 ?c43 ?h43
              case q43 => (simp only [List.getElem?_toArray, List.getElem?_cons_succ, List.getElem?_cons_zero]; rfl)
              case w43 => kernel_rfl
              case e43 => (intro w'; go_simp; refine ⟨?_, ?_⟩ <;> with_reducible rfl)
              case c43 => (intro w' hw'; exact (m1.out w'))
              (try simp only [Act.put, List.setIfInBounds_toArray, List.set_cons_zero, List.set_cons_succ])
              refine De.Det.read (o := ?o44) (v := ?v44) 13 ?q44 (by kernel_rfl) (by kernel_rfl) ?w44 ?y44 ?h44
              case q44 => (simp only [List.getElem?_toArray, List.getElem?_cons_succ, List.getElem?_cons_zero]; rfl)
              case w44 => kernel_rfl
              case y44 => (intro w' hw'; obtain ⟨c1, c2, c3, c4⟩ := hC.out w' hw'; go_simp; (try with_reducible rfl))
              (try simp only [Act.put, List.setIfInBounds_toArray, List.set_cons_zero, List.set_cons_succ])
              refine De.Det.read (o := ?o45) (v := ?v45) 14 ?q45 (by kernel_rfl) (by kernel_rfl) ?w45 ?y45 ?h45
              case q45 => (simp only [List.getElem?_toArray, List.getElem?_cons_succ, List.getElem?_cons_zero]; rfl)
              case w45 => kernel_rfl
              case y45 => (intro w' hw'; obtain ⟨c1, c2, c3, c4⟩ := hC.out w' hw'; go_simp; (try with_reducible rfl))
              (try simp only [Act.put, List.setIfInBounds_toArray, List.set_cons_zero, List.set_cons_succ])
              refine De.Det.base ?_
              refine De.Det2.done (by kernel_rfl) ?_
              rintro w10 ⟨hb_w10, hO_w10⟩
              clear hO_w10
              clear e1 e2
              have hbx := hbc.trans ((drew_up hb_w10).mono hbc.size)
              go_wp2_with (fail)
              go_ret
              exact ⟨ret_int (hbad.out i hlt (side_bad hki2 (by rw [hA.out]; rfl))).symm, hbx⟩
          · have hd1 : ¬ ((i : Int) - k < (n : Int) - 1) := by omega
            have hdd : decide ((i : Int) - k < (n : Int) - 1) = false := decide_eq_false hd1
            have hA : Hid (apartB o i k = true) := by rw [Hid, hap3, decide_eq_false hd]; rfl
            clear hap3
            have e1 : IntKind.i64.wrap ((i : Int) - k) = (i : Int) - k := IntWalk.i64_in _ (by omega)
            have e2 : IntKind.i64.wrap ((n : Int) - 1) = (n : Int) - 1 := IntWalk.i64_in _ (by omega)
            replace e1 := Lib.hid e1
            replace e2 := Lib.hid e2
            go_wp2_with (fail)
            replace e1 := e1.out
            replace e2 := e2.out
            refine De.region_det (by kernel_rfl) (by kernel_rfl) ?_
            refine De.Det.read (o := ?o46) (v := ?v46) 0 ?q46 (by kernel_rfl) (by kernel_rfl) ?w46 ?y46 ?h46
            case q46 => (simp only [List.getElem?_toArray, List.getElem?_cons_succ, List.getElem?_cons_zero]; rfl)
            case w46 => kernel_rfl
            case y46 => (intro w' hw'; obtain ⟨c1, c2, c3, c4⟩ := hC.out w' hw'; go_simp; (try with_reducible rfl))
            (try simp only [Act.put, List.setIfInBounds_toArray, List.set_cons_zero, List.set_cons_succ])
            refine De.Det.read (o := ?o47) (v := ?v47) 1 ?q47 (by kernel_rfl) (by kernel_rfl) ?w47 ?y47 ?h47
            case q47 => (simp only [List.getElem?_toArray, List.getElem?_cons_succ, List.getElem?_cons_zero]; rfl)
            case w47 => kernel_rfl
            case y47 => (intro w' hw'; obtain ⟨c1, c2, c3, c4⟩ := hC.out w' hw'; go_simp; (try with_reducible rfl))
            (try simp only [Act.put, List.setIfInBounds_toArray, List.set_cons_zero, List.set_cons_succ])
            refine De.Det.read (o := ?o48) (v := ?v48) 2 ?q48 (by kernel_rfl) (by kernel_rfl) ?w48 ?y48 ?h48
            case q48 => (simp only [List.getElem?_toArray, List.getElem?_cons_succ, List.getElem?_cons_zero]; rfl)
            case w48 => kernel_rfl
            case y48 => (intro w' hw'; obtain ⟨c1, c2, c3, c4⟩ := hC.out w' hw'; go_simp; (try with_reducible rfl))
            (try simp only [Act.put, List.setIfInBounds_toArray, List.set_cons_zero, List.set_cons_succ])
            refine De.Det.read (o := ?o49) (v := ?v49) 3 ?q49 (by kernel_rfl) (by kernel_rfl) ?w49 ?y49 ?h49
            case q49 => (simp only [List.getElem?_toArray, List.getElem?_cons_succ, List.getElem?_cons_zero]; rfl)
            case w49 => kernel_rfl
            case y49 => (intro w' hw'; obtain ⟨c1, c2, c3, c4⟩ := hC.out w' hw'; go_simp; (try with_reducible rfl))
            (try simp only [Act.put, List.setIfInBounds_toArray, List.set_cons_zero, List.set_cons_succ])
            refine De.Det.read (o := ?o50) (v := ?v50) 4 ?q50 (by kernel_rfl) (by kernel_rfl) ?w50 ?y50 ?h50
            case q50 => (simp only [List.getElem?_toArray, List.getElem?_cons_succ, List.getElem?_cons_zero]; rfl)
            case w50 => kernel_rfl
            case y50 => (intro w' hw'; obtain ⟨c1, c2, c3, c4⟩ := hC.out w' hw'; go_simp; (try with_reducible rfl))
            (try simp only [Act.put, List.setIfInBounds_toArray, List.set_cons_zero, List.set_cons_succ])
            refine De.Det.read (o := ?o51) (v := ?v51) 5 ?q51 (by kernel_rfl) (by kernel_rfl) ?w51 ?y51 ?h51
            case q51 => (simp only [List.getElem?_toArray, List.getElem?_cons_succ, List.getElem?_cons_zero]; rfl)
            case w51 => kernel_rfl
            case y51 => (intro w' hw'; obtain ⟨c1, c2, c3, c4⟩ := hC.out w' hw'; go_simp; (try with_reducible rfl))
            (try simp only [Act.put, List.setIfInBounds_toArray, List.set_cons_zero, List.set_cons_succ])
            refine De.Det.read (o := ?o52) (v := ?v52) 6 ?q52 (by kernel_rfl) (by kernel_rfl) ?w52 ?y52 ?h52
            case q52 => (simp only [List.getElem?_toArray, List.getElem?_cons_succ, List.getElem?_cons_zero]; rfl)
            case w52 => kernel_rfl
            case y52 => (intro w' hw'; obtain ⟨c1, c2, c3, c4⟩ := hC.out w' hw'; go_simp; (try with_reducible rfl))
            (try simp only [Act.put, List.setIfInBounds_toArray, List.set_cons_zero, List.set_cons_succ])
            refine De.Det.read (o := ?o53) (v := ?v53) 7 ?q53 (by kernel_rfl) (by kernel_rfl) ?w53 ?y53 ?h53
            case q53 => (simp only [List.getElem?_toArray, List.getElem?_cons_succ, List.getElem?_cons_zero]; rfl)
            case w53 => kernel_rfl
            case y53 => (intro w' hw'; obtain ⟨c1, c2, c3, c4⟩ := hC.out w' hw'; go_simp; (try with_reducible rfl))
            (try simp only [Act.put, List.setIfInBounds_toArray, List.set_cons_zero, List.set_cons_succ])
            refine De.Det.skip (o := ?o54) 8 ?q54 (by kernel_rfl) (by kernel_rfl) ?w54 ?h54
            case q54 => (simp only [List.getElem?_toArray, List.getElem?_cons_succ, List.getElem?_cons_zero]; rfl)
            case w54 => kernel_rfl
            (try simp only [Act.put, List.setIfInBounds_toArray, List.set_cons_zero, List.set_cons_succ])
            refine De.Det.skip (o := ?o55) 9 ?q55 (by kernel_rfl) (by kernel_rfl) ?w55 ?h55
            case q55 => (simp only [List.getElem?_toArray, List.getElem?_cons_succ, List.getElem?_cons_zero]; rfl)
            case w55 => kernel_rfl
            (try simp only [Act.put, List.setIfInBounds_toArray, List.set_cons_zero, List.set_cons_succ])
            refine De.Det.skip (o := ?o56) 10 ?q56 (by kernel_rfl) (by kernel_rfl) ?w56 ?h56
            case q56 => (simp only [List.getElem?_toArray, List.getElem?_cons_succ, List.getElem?_cons_zero]; rfl)
            case w56 => kernel_rfl
            (try simp only [Act.put, List.setIfInBounds_toArray, List.set_cons_zero, List.set_cons_succ])
            refine De.Det.skip (o := ?o57) 11 ?q57 (by kernel_rfl) (by kernel_rfl) ?w57 ?h57
            case q57 => (simp only [List.getElem?_toArray, List.getElem?_cons_succ, List.getElem?_cons_zero]; rfl)
            case w57 => kernel_rfl
            (try simp only [Act.put, List.setIfInBounds_toArray, List.set_cons_zero, List.set_cons_succ])
            refine De.Det.skip (o := ?o58) 12 ?q58 (by kernel_rfl) (by kernel_rfl) ?w58 ?h58
            case q58 => (simp only [List.getElem?_toArray, List.getElem?_cons_succ, List.getElem?_cons_zero]; rfl)
            case w58 => kernel_rfl
            (try simp only [Act.put, List.setIfInBounds_toArray, List.set_cons_zero, List.set_cons_succ])
            refine De.Det.skip (o := ?o59) 13 ?q59 (by kernel_rfl) (by kernel_rfl) ?w59 ?h59
            case q59 => (simp only [List.getElem?_toArray, List.getElem?_cons_succ, List.getElem?_cons_zero]; rfl)
            case w59 => kernel_rfl
            (try simp only [Act.put, List.setIfInBounds_toArray, List.set_cons_zero, List.set_cons_succ])
            refine De.Det.read (o := ?o60) (v := ?v60) 14 ?q60 (by kernel_rfl) (by kernel_rfl) ?w60 ?y60 ?h60
            case q60 => (simp only [List.getElem?_toArray, List.getElem?_cons_succ, List.getElem?_cons_zero]; rfl)
            case w60 => kernel_rfl
            case y60 => (intro w' hw'; obtain ⟨c1, c2, c3, c4⟩ := hC.out w' hw'; go_simp; (try with_reducible rfl))
            (try simp only [Act.put, List.setIfInBounds_toArray, List.set_cons_zero, List.set_cons_succ])
            refine De.Det.base ?_
            refine De.Det2.done (by kernel_rfl) ?_
            rintro w10 ⟨hb_w10, hO_w10⟩
            clear hO_w10
            clear e1 e2
            have hbx := hbk.trans ((drew_up hb_w10).mono hbk.size)
            go_wp2_with (fail)
            go_roundw
            case rel => exact ⟨k + 1, by go_num, fun x hx hx2 => by
              rcases Nat.lt_or_ge x k with h | h
              · exact hpr.out x h hx2
              · obtain rfl : x = k := by omega
                exact hA.out, hbx⟩
            case measure => simp [intOf]; omega
        · go_wp2_with (fail)
          go_roundw
          case rel => exact ⟨i + 1, by omega, by go_num, fun x hx => by
            rcases Nat.lt_or_ge x i with h | h
            · exact hal.out x h
            · obtain rfl : x = i := by omega
              exact hsg.out (by first | rfl | trivial) (by first | rfl | trivial) (fun y hy => hpr.out y (by omega) hy), hbc⟩
          case measure => simp [intOf]; omega
    · obtain rfl : n = i := by omega
      go_wp2_with (fail)
      go_ret
      exact ⟨ret_int (hgood.out hal.out).symm, hb⟩
end Du
end Go.Proofs.YtkbfmogjhjdjmaaDoor
