/- The contracts of the clasps, in the words that the laws' walks take. -/
import Derived.Test.YtjhcemhnnkcjaaaDoorWorks
namespace Go.Proofs.YtjhcemhnnkcjaaaDoor
open Go.RowKit
def numV (xs : List Int) : Int := if chk xs = 0 then (numS xs : Int) else 0
def distV (xs ys : List Int) : Int := if bothE xs ys = 0 then (distS (numS xs) (numS ys) : Int) else 0
def nextV (xs ys : List Int) : Int := if nextE xs ys = 0 then (nextS (numS xs) (numS ys) : Int) else 0
section
variable {w0 w : World} {l : List (Option Addr × Nat × List Int)} {A B E : Option Addr} {n m k c d f : Nat} {xs ys zs : List Int}
theorem v_retL {w' : World} {e : Ending} {er : Int} (h : Wk w0 w l) (hr : RetL xs er w e w') : ∃ A n c, e = .returned (.tuple #[.slice A n c, .int .i64 er]) ∧ xs.length ≤ 65536 ∧ Wk w0 w' ((A, n, xs) :: l) := by
  obtain ⟨A, n, c, h1, h2, h4, h3⟩ := hr
  exact ⟨A, n, c, h1, by rw [h2.len]; exact h4, (h.step h3).add h2⟩
theorem v_same (h : Wk w0 w l) (h1 : (A, n, xs) ∈ l) (h2 : (B, m, xs) ∈ l) (hl : xs.length ≤ 65536) : Calls Tryd.prog 22 #[.slice A n c, .slice B m d] w fun e w' => e = .returned (.bool true) ∧ Wk w0 w' l := by
  have h1 := h.get h1
  have h2 := h.get h2
  refine (same_any A B n m c d xs xs w _ h1 h2 (max_of h1 (by omega)) (max_of h2 (by omega))).mono ?_
  rintro e w' ⟨rfl, q, rfl⟩
  exact ⟨by rw [beq_self_eq_true], h.step (below_drewN (Below.refl _ _) q)⟩
theorem v_works (h : Wk w0 w l) : Calls Tryd.prog 15 #[] w fun e w' => e = .returned (.bool true) ∧ Wk w0 w' l := by
  refine (works_any w h.2.2).mono ?_
  rintro e w' ⟨rfl, hb⟩
  exact ⟨rfl, h.step hb⟩
theorem v_number (h : Wk w0 w l) (h1 : (A, n, xs) ∈ l) (hn : n ≤ maxLen) : Calls Tryd.prog 16 #[.slice A n c] w fun e w' => e = .returned (.tuple #[.int .i64 (numV xs), .int .i64 (chk xs)]) ∧ Wk w0 w' l := by
  refine (Number_any A n c xs w (h.get h1) hn).mono ?_
  intro e w' hr
  exact w_retI h hr
theorem v_position (h : Wk w0 w l) (r i : Int) (q1 : -9223372036854775808 ≤ i) (q2 : i ≤ 9223372036854775807) : Calls Tryd.prog 18 #[.int .i64 r, .int .i64 i] w fun e w' => ∃ A n c, e = .returned (.tuple #[.slice A n c, .int .i64 (posE r i)]) ∧ (posL r i).length ≤ 65536 ∧ Wk w0 w' ((A, n, posL r i) :: l) := by
  refine (Position_any r i q1 q2 w).mono ?_
  intro e w' hr
  exact v_retL h hr
theorem v_far (h : Wk w0 w l) (h1 : (A, n, xs) ∈ l) (hn : n ≤ maxLen) : Calls Tryd.prog 20 #[.slice A n c] w fun e w' => ∃ A n c, e = .returned (.tuple #[.slice A n c, .int .i64 (farN xs : Nat), .int .i64 (chk xs)]) ∧ (farL xs).length ≤ 65536 ∧ Wk w0 w' ((A, n, farL xs) :: l) := by
  refine (Far_any A n c xs w (h.get h1) hn).mono ?_
  intro e w' hr
  obtain ⟨A', n', c', e1, e2, e4, e3⟩ := hr
  exact ⟨A', n', c', e1, by rw [e2.len]; exact e4, (h.step e3).add e2⟩
theorem v_moves (h : Wk w0 w l) (h1 : (A, n, xs) ∈ l) (hn : n ≤ maxLen) : Calls Tryd.prog 41 #[.slice A n c] w fun e w' => ∃ A n c, e = .returned (.tuple #[.slice A n c, .int .i64 (chk xs)]) ∧ (movesS xs).length ≤ 65536 ∧ Wk w0 w' ((A, n, movesS xs) :: l) := by
  refine (Moves_any A n c xs w (h.get h1) hn).mono ?_
  intro e w' hr
  exact v_retL h hr
theorem v_move (h : Wk w0 w l) (h1 : (A, n, xs) ∈ l) (hn : n ≤ maxLen) (r : Int) : Calls Tryd.prog 44 #[.slice A n c, .int .i64 r] w fun e w' => ∃ A n c, e = .returned (.tuple #[.slice A n c, .int .i64 (moveE xs r)]) ∧ (moveL xs r).length ≤ 65536 ∧ Wk w0 w' ((A, n, moveL xs r) :: l) := by
  refine (Move_any A n c xs r w (h.get h1) hn).mono ?_
  intro e w' hr
  exact v_retL h hr
theorem v_check (h : Wk w0 w l) (h1 : (A, n, xs) ∈ l) (hn : n ≤ maxLen) : Calls Tryd.prog 46 #[.slice A n c] w fun e w' => e = .returned (.int .i64 (chk xs)) ∧ Wk w0 w' l := by
  refine (Check_any A n c xs w (h.get h1) hn).mono ?_
  intro e w' hr
  exact w_retE h hr
theorem v_distance (h : Wk w0 w l) (h1 : (A, n, xs) ∈ l) (hn : n ≤ maxLen) (h2 : (B, m, ys) ∈ l) (hm : m ≤ maxLen) : Calls Tryd.prog 23 #[.slice A n c, .slice B m d] w fun e w' => e = .returned (.tuple #[.int .i64 (distV xs ys), .int .i64 (bothE xs ys)]) ∧ Wk w0 w' l := by
  refine (Distance_any A B n m c d xs ys w (h.get h1) (h.get h2) hn hm).mono ?_
  intro e w' hr
  exact w_retI h hr
theorem v_next (h : Wk w0 w l) (h1 : (A, n, xs) ∈ l) (hn : n ≤ maxLen) (h2 : (B, m, ys) ∈ l) (hm : m ≤ maxLen) : Calls Tryd.prog 25 #[.slice A n c, .slice B m d] w fun e w' => e = .returned (.tuple #[.int .i64 (nextV xs ys), .int .i64 (nextE xs ys)]) ∧ Wk w0 w' l := by
  refine (Next_any A B n m c d xs ys w (h.get h1) (h.get h2) hn hm h.2.2).mono ?_
  intro e w' hr
  exact w_retI h hr
theorem v_way (h : Wk w0 w l) (h1 : (A, n, xs) ∈ l) (hn : n ≤ maxLen) (h2 : (B, m, ys) ∈ l) (hm : m ≤ maxLen) : Calls Tryd.prog 27 #[.slice A n c, .slice B m d] w fun e w' => ∃ A n c, e = .returned (.tuple #[.slice A n c, .int .i64 (wayE xs ys)]) ∧ (wayL xs ys).length ≤ 65536 ∧ Wk w0 w' ((A, n, wayL xs ys) :: l) := by
  refine (Way_any A B n m c d xs ys w (h.get h1) (h.get h2) hn hm h.2.2).mono ?_
  intro e w' hr
  exact v_retL h hr
theorem v_leads (h : Wk w0 w l) (h1 : (A, n, xs) ∈ l) (hn : n ≤ maxLen) (h2 : (B, m, ys) ∈ l) (hm : m ≤ maxLen) (h3 : (E, k, zs) ∈ l) (hk : k ≤ maxLen) : Calls Tryd.prog 29 #[.slice A n c, .slice B m d, .slice E k f] w fun e w' => e = .returned (.int .i64 (leadsE xs ys zs)) ∧ Wk w0 w' l := by
  refine (Leads_any A B E n m k c d f xs ys zs w (h.get h1) (h.get h2) (h.get h3) hn hm hk).mono ?_
  intro e w' hr
  exact w_retE h hr
theorem v_times (h : Wk w0 w l) (h1 : (A, n, xs) ∈ l) (hn : n ≤ maxLen) (h2 : (B, m, ys) ∈ l) (hm : m ≤ maxLen) : Calls Tryd.prog 31 #[.slice A n c, .slice B m d] w fun e w' => ∃ A n c, e = .returned (.tuple #[.slice A n c, .int .i64 (bothE xs ys)]) ∧ (timesL xs ys).length ≤ 65536 ∧ Wk w0 w' ((A, n, timesL xs ys) :: l) := by
  refine (Times_any A B n m c d xs ys w (h.get h1) (h.get h2) hn hm).mono ?_
  intro e w' hr
  exact v_retL h hr
theorem v_at (h : Wk w0 w l) (h1 : (A, n, xs) ∈ l) (hn : n ≤ maxLen) (h2 : (B, m, ys) ∈ l) (hm : m ≤ maxLen) (r : Int) : Calls Tryd.prog 33 #[.slice A n c, .slice B m d, .int .i64 r] w fun e w' => ∃ A n c, e = .returned (.tuple #[.slice A n c, .int .i64 (atE xs ys r)]) ∧ (atL xs ys r).length ≤ 65536 ∧ Wk w0 w' ((A, n, atL xs ys r) :: l) := by
  refine (At_any A B n m c d xs ys r w (h.get h1) (h.get h2) hn hm).mono ?_
  intro e w' hr
  exact v_retL h hr
theorem v_together (h : Wk w0 w l) (h1 : (A, n, xs) ∈ l) (hn : n ≤ maxLen) (h2 : (B, m, ys) ∈ l) (hm : m ≤ maxLen) : Calls Tryd.prog 35 #[.agg (pairC A n c B m d)] w fun e w' => e = .returned (.tuple #[.int .i64 (togN xs ys : Nat), .int .i64 (pairE xs ys)]) ∧ Wk w0 w' l := by
  refine (Together_any A B n m c d xs ys w (h.get h1) (h.get h2) hn hm).mono ?_
  intro e w' hr
  exact w_retI h hr
theorem v_turns (h : Wk w0 w l) (h1 : (A, n, xs) ∈ l) (hn : n ≤ maxLen) (h2 : (B, m, ys) ∈ l) (hm : m ≤ maxLen) : Calls Tryd.prog 37 #[.agg (pairC A n c B m d)] w fun e w' => ∃ A n c, e = .returned (.tuple #[.slice A n c, .int .i64 (pairE xs ys)]) ∧ (turnsL xs ys).length ≤ 65536 ∧ Wk w0 w' ((A, n, turnsL xs ys) :: l) := by
  refine (Turns_any A B n m c d xs ys w (h.get h1) (h.get h2) hn hm h.2.2).mono ?_
  intro e w' hr
  exact v_retL h hr
theorem r_number (h : Wk w0 w l) (h1 : (A, n, xs) ∈ l) (hn : n ≤ maxLen) : Calls Tryd.prog 17 #[.slice A n c] w fun e w' => e = .returned (.tuple #[.int .i64 (numV xs), .int .i64 (chk xs)]) ∧ Wk w0 w' l := by
  refine (refNumberApi_any A n c xs w (h.get h1) hn).mono ?_
  intro e w' hr
  exact w_retI h hr
theorem r_position (h : Wk w0 w l) (r i : Int) (q1 : -9223372036854775808 ≤ i) (q2 : i ≤ 9223372036854775807) : Calls Tryd.prog 19 #[.int .i64 r, .int .i64 i] w fun e w' => ∃ A n c, e = .returned (.tuple #[.slice A n c, .int .i64 (posE r i)]) ∧ (posL r i).length ≤ 65536 ∧ Wk w0 w' ((A, n, posL r i) :: l) := by
  refine (refPosition_any r i q1 q2 w).mono ?_
  intro e w' hr
  exact v_retL h hr
theorem r_far (h : Wk w0 w l) (h1 : (A, n, xs) ∈ l) (hn : n ≤ maxLen) : Calls Tryd.prog 21 #[.slice A n c] w fun e w' => ∃ A n c, e = .returned (.tuple #[.slice A n c, .int .i64 (farN xs : Nat), .int .i64 (chk xs)]) ∧ (farL xs).length ≤ 65536 ∧ Wk w0 w' ((A, n, farL xs) :: l) := by
  refine (refFar_any A n c xs w (h.get h1) hn).mono ?_
  intro e w' hr
  obtain ⟨A', n', c', e1, e2, e4, e3⟩ := hr
  exact ⟨A', n', c', e1, by rw [e2.len]; exact e4, (h.step e3).add e2⟩
theorem r_moves (h : Wk w0 w l) (h1 : (A, n, xs) ∈ l) (hn : n ≤ maxLen) : Calls Tryd.prog 43 #[.slice A n c] w fun e w' => ∃ A n c, e = .returned (.tuple #[.slice A n c, .int .i64 (chk xs)]) ∧ (movesS xs).length ≤ 65536 ∧ Wk w0 w' ((A, n, movesS xs) :: l) := by
  refine (refMoves_any A n c xs w (h.get h1) hn).mono ?_
  intro e w' hr
  exact v_retL h hr
theorem r_move (h : Wk w0 w l) (h1 : (A, n, xs) ∈ l) (hn : n ≤ maxLen) (r : Int) : Calls Tryd.prog 45 #[.slice A n c, .int .i64 r] w fun e w' => ∃ A n c, e = .returned (.tuple #[.slice A n c, .int .i64 (moveE xs r)]) ∧ (moveL xs r).length ≤ 65536 ∧ Wk w0 w' ((A, n, moveL xs r) :: l) := by
  refine (refMove_any A n c xs r w (h.get h1) hn).mono ?_
  intro e w' hr
  exact v_retL h hr
theorem r_check (h : Wk w0 w l) (h1 : (A, n, xs) ∈ l) (hn : n ≤ maxLen) : Calls Tryd.prog 47 #[.slice A n c] w fun e w' => e = .returned (.int .i64 (chk xs)) ∧ Wk w0 w' l := by
  refine (refCheck_E A n c xs w (h.get h1) hn).mono ?_
  intro e w' hr
  exact w_retE h hr
theorem r_distance (h : Wk w0 w l) (h1 : (A, n, xs) ∈ l) (hn : n ≤ maxLen) (h2 : (B, m, ys) ∈ l) (hm : m ≤ maxLen) : Calls Tryd.prog 24 #[.slice A n c, .slice B m d] w fun e w' => e = .returned (.tuple #[.int .i64 (distV xs ys), .int .i64 (bothE xs ys)]) ∧ Wk w0 w' l := by
  refine (refDistanceApi_any A B n m c d xs ys w (h.get h1) (h.get h2) hn hm).mono ?_
  intro e w' hr
  exact w_retI h hr
theorem r_next (h : Wk w0 w l) (h1 : (A, n, xs) ∈ l) (hn : n ≤ maxLen) (h2 : (B, m, ys) ∈ l) (hm : m ≤ maxLen) : Calls Tryd.prog 26 #[.slice A n c, .slice B m d] w fun e w' => e = .returned (.tuple #[.int .i64 (nextV xs ys), .int .i64 (nextE xs ys)]) ∧ Wk w0 w' l := by
  refine (refNextApi_any A B n m c d xs ys w (h.get h1) (h.get h2) hn hm).mono ?_
  intro e w' hr
  exact w_retI h hr
theorem r_way (h : Wk w0 w l) (h1 : (A, n, xs) ∈ l) (hn : n ≤ maxLen) (h2 : (B, m, ys) ∈ l) (hm : m ≤ maxLen) : Calls Tryd.prog 28 #[.slice A n c, .slice B m d] w fun e w' => ∃ A n c, e = .returned (.tuple #[.slice A n c, .int .i64 (wayE xs ys)]) ∧ (wayL xs ys).length ≤ 65536 ∧ Wk w0 w' ((A, n, wayL xs ys) :: l) := by
  refine (refWay_any A B n m c d xs ys w (h.get h1) (h.get h2) hn hm).mono ?_
  intro e w' hr
  exact v_retL h hr
theorem r_leads (h : Wk w0 w l) (h1 : (A, n, xs) ∈ l) (hn : n ≤ maxLen) (h2 : (B, m, ys) ∈ l) (hm : m ≤ maxLen) (h3 : (E, k, zs) ∈ l) (hk : k ≤ maxLen) : Calls Tryd.prog 30 #[.slice A n c, .slice B m d, .slice E k f] w fun e w' => e = .returned (.int .i64 (leadsE xs ys zs)) ∧ Wk w0 w' l := by
  refine (refLeads_any A B E n m k c d f xs ys zs w (h.get h1) (h.get h2) (h.get h3) hn hm hk).mono ?_
  intro e w' hr
  exact w_retE h hr
theorem r_times (h : Wk w0 w l) (h1 : (A, n, xs) ∈ l) (hn : n ≤ maxLen) (h2 : (B, m, ys) ∈ l) (hm : m ≤ maxLen) : Calls Tryd.prog 32 #[.slice A n c, .slice B m d] w fun e w' => ∃ A n c, e = .returned (.tuple #[.slice A n c, .int .i64 (bothE xs ys)]) ∧ (timesL xs ys).length ≤ 65536 ∧ Wk w0 w' ((A, n, timesL xs ys) :: l) := by
  refine (refTimes_any A B n m c d xs ys w (h.get h1) (h.get h2) hn hm).mono ?_
  intro e w' hr
  exact v_retL h hr
theorem r_at (h : Wk w0 w l) (h1 : (A, n, xs) ∈ l) (hn : n ≤ maxLen) (h2 : (B, m, ys) ∈ l) (hm : m ≤ maxLen) (r : Int) : Calls Tryd.prog 34 #[.slice A n c, .slice B m d, .int .i64 r] w fun e w' => ∃ A n c, e = .returned (.tuple #[.slice A n c, .int .i64 (atE xs ys r)]) ∧ (atL xs ys r).length ≤ 65536 ∧ Wk w0 w' ((A, n, atL xs ys r) :: l) := by
  refine (refAt_any A B n m c d xs ys r w (h.get h1) (h.get h2) hn hm).mono ?_
  intro e w' hr
  exact v_retL h hr
theorem r_together (h : Wk w0 w l) (h1 : (A, n, xs) ∈ l) (hn : n ≤ maxLen) (h2 : (B, m, ys) ∈ l) (hm : m ≤ maxLen) : Calls Tryd.prog 36 #[.agg (pairC A n c B m d)] w fun e w' => e = .returned (.tuple #[.int .i64 (togN xs ys : Nat), .int .i64 (pairE xs ys)]) ∧ Wk w0 w' l := by
  refine (refTogetherApi_any A B n m c d xs ys w (h.get h1) (h.get h2) hn hm).mono ?_
  intro e w' hr
  exact w_retI h hr
theorem r_turns (h : Wk w0 w l) (h1 : (A, n, xs) ∈ l) (hn : n ≤ maxLen) (h2 : (B, m, ys) ∈ l) (hm : m ≤ maxLen) : Calls Tryd.prog 38 #[.agg (pairC A n c B m d)] w fun e w' => ∃ A n c, e = .returned (.tuple #[.slice A n c, .int .i64 (pairE xs ys)]) ∧ (turnsL xs ys).length ≤ 65536 ∧ Wk w0 w' ((A, n, turnsL xs ys) :: l) := by
  refine (refTurns_any A B n m c d xs ys w (h.get h1) (h.get h2) hn hm).mono ?_
  intro e w' hr
  exact v_retL h hr
end
end Go.Proofs.YtjhcemhnnkcjaaaDoor
