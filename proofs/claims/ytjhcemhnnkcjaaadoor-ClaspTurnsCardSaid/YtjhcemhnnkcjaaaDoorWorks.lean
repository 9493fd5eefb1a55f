/- The law's list, large, works: the examples hold. -/
import Derived.Test.YtjhcemhnnkcjaaaDoorRefAll
import Derived.Test.YtjhcemhnnkcjaaaDoorSame
namespace Go.Proofs.YtjhcemhnnkcjaaaDoor
open Go.RowKit
theorem tz_1 : tz 1 = 0 := tz_odd rfl
theorem tz_2 : tz 2 = 1 := by rw [tz_even (by omega) rfl]; rw [show 2 / 2 = 1 from rfl, tz_1]
theorem tz_3 : tz 3 = 0 := tz_odd rfl
theorem tz_4 : tz 4 = 2 := by rw [tz_even (by omega) rfl]; rw [show 4 / 2 = 2 from rfl, tz_2]
theorem tz_5 : tz 5 = 0 := tz_odd rfl
theorem n111 : numS [1, 1, 1] = 5 := by decide
theorem n000 : numS [0, 0, 0] = 0 := by decide
theorem n001 : numS [0, 0, 1] = 7 := by decide
theorem n11 : numS [1, 1] = 2 := by decide
theorem n00 : numS [0, 0] = 0 := by decide
theorem n1 : numS [1] = 1 := by decide
theorem c111 : chk [1, 1, 1] = 0 := by decide
theorem b1 : bothE [1, 1, 1] [0, 0, 0] = 0 := by decide
theorem b2 : bothE [1, 1] [0, 0] = 0 := by decide
theorem b3 : bothE [1, 1] [1, 1] = 0 := by decide
theorem b4 : bothE [0, 0, 0] [0, 0, 1] = 0 := by decide
theorem p1 : pairE [1] [1, 1] = 0 := by decide
theorem works_pos : posE 3 4 = 0 ∧ posL 3 4 = [0, 1, 1] := by decide
theorem works_moves : movesS [1, 1, 1] = [0, 1] := by decide
theorem works_move : moveE [1, 1, 1] 1 = 0 ∧ moveL [1, 1, 1] 1 = [1, 0, 1] ∧ moveE [1, 1, 1] 2 = 20 := by decide
theorem wayN50 : wayN 5 0 = [0, 2, 0, 1, 0] := by
  simp [wayN, distS, posS, nextS, List.range_succ, tz_1, tz_2, tz_3, tz_4, tz_5]
theorem works_way : wayE [1, 1, 1] [0, 0, 0] = 0 ∧ wayL [1, 1, 1] [0, 0, 0] = [0, 2, 0, 1, 0] := by
  have h : wayE [1, 1, 1] [0, 0, 0] = 0 := by decide
  exact ⟨h, by rw [wayL, if_pos h, n111, n000, wayN50]⟩
theorem works_times : timesL [1, 1, 1] [0, 0, 0] = [3, 1, 1] := by decide
theorem works_next : nextE [1, 1] [0, 0] = 0 ∧ nextS (numS [1, 1]) (numS [0, 0]) = 1 ∧ nextE [1, 1] [1, 1] = 12 := by
  refine ⟨by decide, ?_, by decide⟩
  rw [n11, n00, nextS, if_neg (by omega), tz_2]
theorem works_at : atE [1, 1, 1] [0, 0, 0] 2 = 0 ∧ atL [1, 1, 1] [0, 0, 0] 2 = [0, 1, 0] := by decide
theorem works_far : farL [1, 1, 1] = [0, 0, 0] ∧ farN [1, 1, 1] = 5 := by decide
theorem works_tog : togN [1] [1, 1] = 5 := by decide
theorem works_turns : turnsL [1] [1, 1] = [0, 1, 0, 0, 0] := by
  rw [turnsL, if_pos p1, n1, n11]
  simp [fewN, turnsGo, upC, pairR, upd, tz_1, tz_2, tz_3]
theorem works_dist : distS (numS [0, 0, 0]) (numS [0, 0, 1]) = 7 := by rw [n000, n001]; rfl
theorem works_leads : leadsE [1, 1, 1] [0, 0, 0] [0, 2, 0, 1, 0] = 0 ∧ leadsE [1, 1, 1] [0, 0, 0] [0, 1] = 20 := by decide
/-- lists that are kept -/
def Keeps (w : World) (l : List (Option Addr × Nat × List Int)) : Prop := ∀ t ∈ l, RInts w w.heap.size t.1 t.2.1 t.2.2
/-- a walk from w0 to w: what it kept -/
def Wk (w0 w : World) (l : List (Option Addr × Nat × List Int)) : Prop := Keeps w l ∧ Below w0.heap.size w0 w ∧ Tab w
section
variable {w0 w w' : World} {l : List (Option Addr × Nat × List Int)} {A B C : Option Addr} {n m k c d f : Nat} {xs ys zs : List Int}
theorem Wk.step (h : Wk w0 w l) (hb : Below w.heap.size w w') : Wk w0 w' l := ⟨fun t ht => ((h.1 t ht).below hb).more hb.size, h.2.1.trans (hb.mono h.2.1.size), h.2.2.later hb⟩
theorem Wk.add (h : Wk w0 w l) (hr : RInts w w.heap.size A n xs) : Wk w0 w ((A, n, xs) :: l) := ⟨fun t ht => by
  rcases List.mem_cons.1 ht with rfl | ht
  · exact hr
  · exact h.1 t ht, h.2⟩
theorem Wk.drop {t : Option Addr × Nat × List Int} (h : Wk w0 w (t :: l)) : Wk w0 w l := ⟨fun s hs => h.1 s (List.mem_cons_of_mem _ hs), h.2⟩
theorem Wk.get (h : Wk w0 w l) (hm : (A, n, xs) ∈ l) : RInts w w.heap.size A n xs := h.1 _ hm
theorem Wk.start (hT : Tab w) : Wk w w [] := ⟨fun _ ht => absurd ht (by simp), Below.refl _ _, hT⟩
theorem max_of (h : RInts w w.heap.size A n xs) (hl : xs.length ≤ 100000) : n ≤ maxLen := by rw [← h.len]; exact Nat.le_trans hl (by decide)
theorem list_same (w : World) (v : Value) : Calls Tryd.prog 48 #[v] w fun e w' => e = .returned v ∧ w' = w := by
  go_enter Tryd.func48, Tryd.ntmps48
  go_wp2_with (fail)
  go_ret
  exact ⟨rfl, rfl⟩
theorem w_lit (h : Wk w0 w l) (ys : List Int) (hn : ys.length = n) : Calls Tryd.prog 48 #[.slice (some ⟨w.heap.size, 0, none⟩) n n] (w.alloc (.cells (intArr ys) 3))
    fun e w' => ∃ g, e = .returned (.slice (some ⟨g, 0, none⟩) n n) ∧ Wk w0 w' ((some ⟨g, 0, none⟩, n, ys) :: l) := by
  refine (list_same _ _).mono ?_
  rintro e w' ⟨rfl, rfl⟩
  exact ⟨_, rfl, (h.step ((Below.refl _ _).alloc (Nat.le_refl _) _)).add (RInts.of_blk (Blk.new _ _ _) hn)⟩
theorem w_list1 (h : Wk w0 w l) (x : Int) : Calls Tryd.prog 48 #[.slice (some ⟨w.heap.size, 0, none⟩) 1 1] (w.alloc (.cells #[.int .i64 x] 3))
    fun e w' => ∃ g, e = .returned (.slice (some ⟨g, 0, none⟩) 1 1) ∧ Wk w0 w' ((some ⟨g, 0, none⟩, 1, [x]) :: l) := w_lit h [x] rfl
theorem w_list2 (h : Wk w0 w l) (x y : Int) : Calls Tryd.prog 48 #[.slice (some ⟨w.heap.size, 0, none⟩) 2 2] (w.alloc (.cells #[.int .i64 x, .int .i64 y] 3))
    fun e w' => ∃ g, e = .returned (.slice (some ⟨g, 0, none⟩) 2 2) ∧ Wk w0 w' ((some ⟨g, 0, none⟩, 2, [x, y]) :: l) := w_lit h [x, y] rfl
theorem w_list3 (h : Wk w0 w l) (x y z : Int) : Calls Tryd.prog 48 #[.slice (some ⟨w.heap.size, 0, none⟩) 3 3] (w.alloc (.cells #[.int .i64 x, .int .i64 y, .int .i64 z] 3))
    fun e w' => ∃ g, e = .returned (.slice (some ⟨g, 0, none⟩) 3 3) ∧ Wk w0 w' ((some ⟨g, 0, none⟩, 3, [x, y, z]) :: l) := w_lit h [x, y, z] rfl
theorem w_list5 (h : Wk w0 w l) (x y z u v : Int) : Calls Tryd.prog 48 #[.slice (some ⟨w.heap.size, 0, none⟩) 5 5] (w.alloc (.cells #[.int .i64 x, .int .i64 y, .int .i64 z, .int .i64 u, .int .i64 v] 3))
    fun e w' => ∃ g, e = .returned (.slice (some ⟨g, 0, none⟩) 5 5) ∧ Wk w0 w' ((some ⟨g, 0, none⟩, 5, [x, y, z, u, v]) :: l) := w_lit h [x, y, z, u, v] rfl
theorem w_same (h : Wk w0 w ((B, m, xs) :: l)) (h1 : (A, n, xs) ∈ l) (hl : xs.length ≤ 100000) : Calls Tryd.prog 22 #[.slice A n c, .slice B m d] w fun e w' => e = .returned (.bool true) ∧ Wk w0 w' l := by
  have h1 := h.get (List.mem_cons_of_mem _ h1)
  have h2 := h.get (List.mem_cons_self)
  refine (same_any A B n m c d xs xs w _ h1 h2 (max_of h1 hl) (max_of h2 hl)).mono ?_
  rintro e w' ⟨rfl, q, rfl⟩
  exact ⟨by rw [beq_self_eq_true], (h.step (below_drewN (Below.refl _ _) q)).drop⟩
theorem w_retL {e : Ending} {er : Int} (h : Wk w0 w l) (hr : RetL xs er w e w') : ∃ A n c, e = .returned (.tuple #[.slice A n c, .int .i64 er]) ∧ Wk w0 w' ((A, n, xs) :: l) := by
  obtain ⟨A, n, c, h1, h2, _, h3⟩ := hr
  exact ⟨A, n, c, h1, (h.step h3).add h2⟩
theorem w_retI {e : Ending} {y er : Int} (h : Wk w0 w l) (hr : RetI y er w e w') : e = .returned (.tuple #[.int .i64 y, .int .i64 er]) ∧ Wk w0 w' l := ⟨hr.1, h.step hr.2⟩
theorem w_retE {e : Ending} {er : Int} (h : Wk w0 w l) (hr : RetE er w e w') : e = .returned (.int .i64 er) ∧ Wk w0 w' l := ⟨hr.1, h.step hr.2⟩
theorem w_number (h : Wk w0 w ((A, n, [1, 1, 1]) :: l)) : Calls Tryd.prog 16 #[.slice A n c] w fun e w' => e = .returned (.tuple #[.int .i64 5, .int .i64 0]) ∧ Wk w0 w' l := by
  refine (Number_any A n c [1, 1, 1] w (h.get (.head _)) (max_of (h.get (.head _)) (by decide))).mono ?_
  intro e w' hr
  rw [c111, n111] at hr; exact w_retI h.drop hr
theorem w_position (h : Wk w0 w (l)) : Calls Tryd.prog 18 #[.int .i64 3, .int .i64 4] w fun e w' => ∃ A n c, e = .returned (.tuple #[.slice A n c, .int .i64 0]) ∧ Wk w0 w' ((A, n, [0, 1, 1]) :: l) := by
  refine (Position_any 3 4 (by omega) (by omega) w).mono ?_
  intro e w' hr
  rw [works_pos.1, works_pos.2] at hr; exact w_retL h hr
theorem w_moves (h : Wk w0 w ((A, n, [1, 1, 1]) :: l)) : Calls Tryd.prog 41 #[.slice A n c] w fun e w' => ∃ A n c, e = .returned (.tuple #[.slice A n c, .int .i64 0]) ∧ Wk w0 w' ((A, n, [0, 1]) :: l) := by
  refine (Moves_any A n c [1, 1, 1] w (h.get (.head _)) (max_of (h.get (.head _)) (by decide))).mono ?_
  intro e w' hr
  rw [works_moves, c111] at hr; exact w_retL h.drop hr
theorem w_move1 (h : Wk w0 w ((A, n, [1, 1, 1]) :: l)) : Calls Tryd.prog 44 #[.slice A n c, .int .i64 1] w fun e w' => ∃ A n c, e = .returned (.tuple #[.slice A n c, .int .i64 0]) ∧ Wk w0 w' ((A, n, [1, 0, 1]) :: l) := by
  refine (Move_any A n c [1, 1, 1] 1 w (h.get (.head _)) (max_of (h.get (.head _)) (by decide))).mono ?_
  intro e w' hr
  rw [works_move.1, works_move.2.1] at hr; exact w_retL h.drop hr
theorem w_move2 (h : Wk w0 w ((A, n, [1, 1, 1]) :: l)) : Calls Tryd.prog 44 #[.slice A n c, .int .i64 2] w fun e w' => ∃ A n c, e = .returned (.tuple #[.slice A n c, .int .i64 20]) ∧ Wk w0 w' l := by
  refine (Move_any A n c [1, 1, 1] 2 w (h.get (.head _)) (max_of (h.get (.head _)) (by decide))).mono ?_
  intro e w' hr
  rw [works_move.2.2] at hr; obtain ⟨A', n', c', e1, _, _, e3⟩ := hr; exact ⟨A', n', c', e1, h.drop.step e3⟩
theorem w_way (h : Wk w0 w ((B, m, [0, 0, 0]) :: (A, n, [1, 1, 1]) :: l)) : Calls Tryd.prog 27 #[.slice A n c, .slice B m d] w fun e w' => ∃ A n c, e = .returned (.tuple #[.slice A n c, .int .i64 0]) ∧ Wk w0 w' ((A, n, [0, 2, 0, 1, 0]) :: l) := by
  refine (Way_any A B n m c d [1, 1, 1] [0, 0, 0] w (h.get (.tail _ (.head _))) (h.get (.head _)) (max_of (h.get (.tail _ (.head _))) (by decide)) (max_of (h.get (.head _)) (by decide)) h.2.2).mono ?_
  intro e w' hr
  rw [works_way.1, works_way.2] at hr; exact w_retL h.drop.drop hr
theorem w_times (h : Wk w0 w ((B, m, [0, 0, 0]) :: (A, n, [1, 1, 1]) :: l)) : Calls Tryd.prog 31 #[.slice A n c, .slice B m d] w fun e w' => ∃ A n c, e = .returned (.tuple #[.slice A n c, .int .i64 0]) ∧ Wk w0 w' ((A, n, [3, 1, 1]) :: l) := by
  refine (Times_any A B n m c d [1, 1, 1] [0, 0, 0] w (h.get (.tail _ (.head _))) (h.get (.head _)) (max_of (h.get (.tail _ (.head _))) (by decide)) (max_of (h.get (.head _)) (by decide))).mono ?_
  intro e w' hr
  rw [works_times, b1] at hr; exact w_retL h.drop.drop hr
theorem w_next1 (h : Wk w0 w ((B, m, [0, 0]) :: (A, n, [1, 1]) :: l)) : Calls Tryd.prog 25 #[.slice A n c, .slice B m d] w fun e w' => e = .returned (.tuple #[.int .i64 1, .int .i64 0]) ∧ Wk w0 w' l := by
  refine (Next_any A B n m c d [1, 1] [0, 0] w (h.get (.tail _ (.head _))) (h.get (.head _)) (max_of (h.get (.tail _ (.head _))) (by decide)) (max_of (h.get (.head _)) (by decide)) h.2.2).mono ?_
  intro e w' hr
  rw [works_next.1, works_next.2.1] at hr; exact w_retI h.drop.drop hr
theorem w_next2 (h : Wk w0 w ((B, m, [1, 1]) :: (A, n, [1, 1]) :: l)) : Calls Tryd.prog 25 #[.slice A n c, .slice B m d] w fun e w' => e = .returned (.tuple #[.int .i64 0, .int .i64 12]) ∧ Wk w0 w' l := by
  refine (Next_any A B n m c d [1, 1] [1, 1] w (h.get (.tail _ (.head _))) (h.get (.head _)) (max_of (h.get (.tail _ (.head _))) (by decide)) (max_of (h.get (.head _)) (by decide)) h.2.2).mono ?_
  intro e w' hr
  rw [works_next.2.2] at hr; exact w_retI h.drop.drop hr
theorem w_at (h : Wk w0 w ((B, m, [0, 0, 0]) :: (A, n, [1, 1, 1]) :: l)) : Calls Tryd.prog 33 #[.slice A n c, .slice B m d, .int .i64 2] w fun e w' => ∃ A n c, e = .returned (.tuple #[.slice A n c, .int .i64 0]) ∧ Wk w0 w' ((A, n, [0, 1, 0]) :: l) := by
  refine (At_any A B n m c d [1, 1, 1] [0, 0, 0] 2 w (h.get (.tail _ (.head _))) (h.get (.head _)) (max_of (h.get (.tail _ (.head _))) (by decide)) (max_of (h.get (.head _)) (by decide))).mono ?_
  intro e w' hr
  rw [works_at.1, works_at.2] at hr; exact w_retL h.drop.drop hr
theorem w_far (h : Wk w0 w ((A, n, [1, 1, 1]) :: l)) : Calls Tryd.prog 20 #[.slice A n c] w fun e w' => ∃ A n c, e = .returned (.tuple #[.slice A n c, .int .i64 5, .int .i64 0]) ∧ Wk w0 w' ((A, n, [0, 0, 0]) :: l) := by
  refine (Far_any A n c [1, 1, 1] w (h.get (.head _)) (max_of (h.get (.head _)) (by decide))).mono ?_
  intro e w' hr
  rw [works_far.1, works_far.2, c111] at hr; obtain ⟨A', n', c', e1, e2, _, e3⟩ := hr; exact ⟨A', n', c', e1, (h.drop.step e3).add e2⟩
theorem w_tog (h : Wk w0 w ((B, m, [1, 1]) :: (A, n, [1]) :: l)) : Calls Tryd.prog 35 #[.agg (pairC A n c B m d)] w fun e w' => e = .returned (.tuple #[.int .i64 5, .int .i64 0]) ∧ Wk w0 w' l := by
  refine (Together_any A B n m c d [1] [1, 1] w (h.get (.tail _ (.head _))) (h.get (.head _)) (max_of (h.get (.tail _ (.head _))) (by decide)) (max_of (h.get (.head _)) (by decide))).mono ?_
  intro e w' hr
  rw [works_tog, p1] at hr; exact w_retI h.drop.drop hr
theorem w_turns (h : Wk w0 w ((B, m, [1, 1]) :: (A, n, [1]) :: l)) : Calls Tryd.prog 37 #[.agg (pairC A n c B m d)] w fun e w' => ∃ A n c, e = .returned (.tuple #[.slice A n c, .int .i64 0]) ∧ Wk w0 w' ((A, n, [0, 1, 0, 0, 0]) :: l) := by
  refine (Turns_any A B n m c d [1] [1, 1] w (h.get (.tail _ (.head _))) (h.get (.head _)) (max_of (h.get (.tail _ (.head _))) (by decide)) (max_of (h.get (.head _)) (by decide)) h.2.2).mono ?_
  intro e w' hr
  rw [works_turns, p1] at hr; exact w_retL h.drop.drop hr
theorem w_dist (h : Wk w0 w ((B, m, [0, 0, 1]) :: (A, n, [0, 0, 0]) :: l)) : Calls Tryd.prog 23 #[.slice A n c, .slice B m d] w fun e w' => e = .returned (.tuple #[.int .i64 7, .int .i64 0]) ∧ Wk w0 w' l := by
  refine (Distance_any A B n m c d [0, 0, 0] [0, 0, 1] w (h.get (.tail _ (.head _))) (h.get (.head _)) (max_of (h.get (.tail _ (.head _))) (by decide)) (max_of (h.get (.head _)) (by decide))).mono ?_
  intro e w' hr
  rw [b4, works_dist] at hr; exact w_retI h.drop.drop hr
theorem w_leads1 (h : Wk w0 w ((C, k, [0, 2, 0, 1, 0]) :: (B, m, [0, 0, 0]) :: (A, n, [1, 1, 1]) :: l)) : Calls Tryd.prog 29 #[.slice A n c, .slice B m d, .slice C k f] w fun e w' => e = .returned (.int .i64 0) ∧ Wk w0 w' l := by
  refine (Leads_any A B C n m k c d f [1, 1, 1] [0, 0, 0] [0, 2, 0, 1, 0] w (h.get (.tail _ (.tail _ (.head _)))) (h.get (.tail _ (.head _))) (h.get (.head _)) (max_of (h.get (.tail _ (.tail _ (.head _)))) (by decide)) (max_of (h.get (.tail _ (.head _))) (by decide)) (max_of (h.get (.head _)) (by decide))).mono ?_
  intro e w' hr
  rw [works_leads.1] at hr; exact w_retE h.drop.drop.drop hr
theorem w_leads2 (h : Wk w0 w ((C, k, [0, 1]) :: (B, m, [0, 0, 0]) :: (A, n, [1, 1, 1]) :: l)) : Calls Tryd.prog 29 #[.slice A n c, .slice B m d, .slice C k f] w fun e w' => e = .returned (.int .i64 20) ∧ Wk w0 w' l := by
  refine (Leads_any A B C n m k c d f [1, 1, 1] [0, 0, 0] [0, 1] w (h.get (.tail _ (.tail _ (.head _)))) (h.get (.tail _ (.head _))) (h.get (.head _)) (max_of (h.get (.tail _ (.tail _ (.head _)))) (by decide)) (max_of (h.get (.tail _ (.head _))) (by decide)) (max_of (h.get (.head _)) (by decide))).mono ?_
  intro e w' hr
  rw [works_leads.2] at hr; exact w_retE h.drop.drop.drop hr
end
theorem large_any (A B C : Option Addr) (n m k c d f : Nat) (w : World) (hn : n ≤ maxLen) (hm : m ≤ maxLen) (hk : k ≤ maxLen) :
    Calls Tryd.prog 14 #[.slice A n c, .slice B m d, .slice C k f] w fun e w' => e = .returned (.bool (decide (60 < n) || decide (60 < m) || decide (1200 < k))) ∧ w' = w := by
  unfold maxLen at hn hm hk
  have e1 : decide ((60 : Int) < (n : Int)) = decide (60 < n) := by rw [decide_eq_decide]; omega
  have e2 : decide ((60 : Int) < (m : Int)) = decide (60 < m) := by rw [decide_eq_decide]; omega
  have e3 : decide ((1200 : Int) < (k : Int)) = decide (1200 < k) := by rw [decide_eq_decide]; omega
  rw [← e1, ← e2, ← e3]
  clear e1 e2 e3
  go_enter Tryd.func14, Tryd.ntmps14
  go_wp2_with (fail)
  all_goals
    go_ret
    exact ⟨rfl, rfl⟩
set_option maxRecDepth 100000 in
set_option maxHeartbeats 16000000 in
theorem works_any (w1 : World) (hT : Tab w1) : Calls Tryd.prog 15 #[] w1 fun e w' => e = .returned (.bool true) ∧ Below w1.heap.size w1 w' := by
  have hS := Wk.start hT
  have _k0 := hT
  have _k1 := hT
  have _k2 := hT
  have _k3 := hT
  have _k4 := hT
  have _k5 := hT
  have _k6 := hT
  have _k7 := hT
  have _k8 := hT
  have _k9 := hT
  have _k10 := hT
  have _k11 := hT
  have _k12 := hT
  have _k13 := hT
  go_enter Tryd.func15, Tryd.ntmps15
  go_wp2_with (first
    | (go_at_call_of 48 (Value.slice (some ⟨w1.heap.size, 0, none⟩) 1 1); refine (w_list1 hS _).mono ?_; rintro e w1 ⟨g, rfl, hS2⟩; replace hS := hS2; clear hS2)
    | (go_at_call_of 48 (Value.slice (some ⟨w1.heap.size, 0, none⟩) 2 2); refine (w_list2 hS _ _).mono ?_; rintro e w1 ⟨g, rfl, hS2⟩; replace hS := hS2; clear hS2)
    | (go_at_call_of 48 (Value.slice (some ⟨w1.heap.size, 0, none⟩) 3 3); refine (w_list3 hS _ _ _).mono ?_; rintro e w1 ⟨g, rfl, hS2⟩; replace hS := hS2; clear hS2)
    | (go_at_call_of 48 (Value.slice (some ⟨w1.heap.size, 0, none⟩) 5 5); refine (w_list5 hS _ _ _ _ _).mono ?_; rintro e w1 ⟨g, rfl, hS2⟩; replace hS := hS2; clear hS2)
    | (go_at_call 16; refine (w_number hS).mono ?_; rintro e w1 ⟨rfl, hS2⟩; replace hS := hS2; clear hS2)
    | (go_at_call 18; refine (w_position hS).mono ?_; rintro e w1 ⟨A, n, c, rfl, hS2⟩; replace hS := hS2; clear hS2)
    | (go_at_call 41; refine (w_moves hS).mono ?_; rintro e w1 ⟨A, n, c, rfl, hS2⟩; replace hS := hS2; clear hS2)
    | (go_at_call 44; clear _k0; refine (w_move1 hS).mono ?_; rintro e w1 ⟨A, n, c, rfl, hS2⟩; replace hS := hS2; clear hS2)
    | (go_at_call 44; clear _k1; refine (w_move2 hS).mono ?_; rintro e w1 ⟨A, n, c, rfl, hS2⟩; replace hS := hS2; clear hS2)
    | (go_at_call 27; refine (w_way hS).mono ?_; rintro e w1 ⟨A, n, c, rfl, hS2⟩; replace hS := hS2; clear hS2)
    | (go_at_call 31; refine (w_times hS).mono ?_; rintro e w1 ⟨A, n, c, rfl, hS2⟩; replace hS := hS2; clear hS2)
    | (go_at_call 25; clear _k2; refine (w_next1 hS).mono ?_; rintro e w1 ⟨rfl, hS2⟩; replace hS := hS2; clear hS2)
    | (go_at_call 25; clear _k3; refine (w_next2 hS).mono ?_; rintro e w1 ⟨rfl, hS2⟩; replace hS := hS2; clear hS2)
    | (go_at_call 33; refine (w_at hS).mono ?_; rintro e w1 ⟨A, n, c, rfl, hS2⟩; replace hS := hS2; clear hS2)
    | (go_at_call 20; refine (w_far hS).mono ?_; rintro e w1 ⟨A, n, c, rfl, hS2⟩; replace hS := hS2; clear hS2)
    | (go_at_call 35; refine (w_tog hS).mono ?_; rintro e w1 ⟨rfl, hS2⟩; replace hS := hS2; clear hS2)
    | (go_at_call 37; refine (w_turns hS).mono ?_; rintro e w1 ⟨A, n, c, rfl, hS2⟩; replace hS := hS2; clear hS2)
    | (go_at_call 23; refine (w_dist hS).mono ?_; rintro e w1 ⟨rfl, hS2⟩; replace hS := hS2; clear hS2)
    | (go_at_call 29; clear _k4; refine (w_leads1 hS).mono ?_; rintro e w1 ⟨rfl, hS2⟩; replace hS := hS2; clear hS2)
    | (go_at_call 29; clear _k5; refine (w_leads2 hS).mono ?_; rintro e w1 ⟨rfl, hS2⟩; replace hS := hS2; clear hS2)
    | (go_at_call 22; clear _k6; refine (w_same hS (.tail _ (.tail _ (.tail _ (.tail _ (.tail _ (.tail _ (.tail _ (.head _)))))))) (by decide)).mono ?_; rintro e w1 ⟨rfl, hS2⟩; replace hS := hS2; clear hS2)
    | (go_at_call 22; clear _k7; refine (w_same hS (.tail _ (.tail _ (.tail _ (.tail _ (.tail _ (.tail _ (.head _))))))) (by decide)).mono ?_; rintro e w1 ⟨rfl, hS2⟩; replace hS := hS2; clear hS2)
    | (go_at_call 22; clear _k8; refine (w_same hS (.tail _ (.tail _ (.tail _ (.tail _ (.tail _ (.head _)))))) (by decide)).mono ?_; rintro e w1 ⟨rfl, hS2⟩; replace hS := hS2; clear hS2)
    | (go_at_call 22; clear _k9; refine (w_same hS (.tail _ (.tail _ (.tail _ (.tail _ (.head _))))) (by decide)).mono ?_; rintro e w1 ⟨rfl, hS2⟩; replace hS := hS2; clear hS2)
    | (go_at_call 22; clear _k10; refine (w_same hS (.tail _ (.tail _ (.tail _ (.head _)))) (by decide)).mono ?_; rintro e w1 ⟨rfl, hS2⟩; replace hS := hS2; clear hS2)
    | (go_at_call 22; clear _k11; refine (w_same hS (.tail _ (.tail _ (.head _))) (by decide)).mono ?_; rintro e w1 ⟨rfl, hS2⟩; replace hS := hS2; clear hS2)
    | (go_at_call 22; clear _k12; refine (w_same hS (.tail _ (.head _)) (by decide)).mono ?_; rintro e w1 ⟨rfl, hS2⟩; replace hS := hS2; clear hS2)
    | (go_at_call 22; clear _k13; refine (w_same hS (.head _) (by decide)).mono ?_; rintro e w1 ⟨rfl, hS2⟩; replace hS := hS2; clear hS2))
  go_ret
  exact ⟨rfl, hS.2.1⟩
end Go.Proofs.YtjhcemhnnkcjaaaDoor
