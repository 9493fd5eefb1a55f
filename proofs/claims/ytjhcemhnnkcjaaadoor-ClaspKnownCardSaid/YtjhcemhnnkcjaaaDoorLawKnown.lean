/- The law ClaspKnown, walked: it returns true. -/
import Derived.Test.YtjhcemhnnkcjaaaDoorLawA
namespace Go.Proofs.YtjhcemhnnkcjaaaDoor
open Go.RowKit
theorem own_ne {u v : Value} {g5 N : Nat} (hat : u.ownBlock = some g5 ∨ g5 = N) (hne : ∀ g, u.ownBlock = some g → v.ownBlock ≠ some g) (hlt : ∀ g, v.ownBlock = some g → g < N) : ∀ g, v.ownBlock = some g → g ≠ g5 := by
  intro g hg e
  subst e
  rcases hat with h | h
  · exact hne _ h hg
  · have := hlt _ hg; omega
theorem kn_c001 : chk [0, 0, 1] = 0 := by decide
theorem kn_c000 : chk [0, 0, 0] = 0 := by decide
theorem kn_moves : movesS [0, 0, 1] = [0] := by decide
theorem kn_next : nextE [1, 1] [0, 1] = 0 ∧ nextS (numS [1, 1]) (numS [0, 1]) = 0 := by
  refine ⟨by decide, ?_⟩
  rw [n11, show numS [0, 1] = 3 by decide, nextS, if_pos (by omega), tz_3]
theorem kn_on : numS (List.replicate 16 1) = 43690 := by decide
theorem kn_off : numS (List.replicate 16 0) = 0 := by decide
theorem kn_both : bothE (List.replicate 16 1) (List.replicate 16 0) = 0 := by decide
theorem kn_dist : distS (numS (List.replicate 16 1)) (numS (List.replicate 16 0)) = 43690 := by rw [kn_on, kn_off]; rfl
theorem kn_way : wayE (List.replicate 16 1) (List.replicate 16 0) = 3 := by rw [wayE, if_neg (fun h => h kn_both), if_pos (by rw [kn_dist]; omega)]
theorem kn_far : farL [0, 0, 0] = [0, 0, 1] ∧ farN [0, 0, 0] = 7 := by decide
theorem kn_pair : pairE [1] [1] = 0 := by decide
theorem kn_tog : togN [1] [1] = 2 := by decide
theorem kn_leads : leadsE [1, 1, 1] [0, 0, 0] [0] = 14 ∧ leadsE [1, 1, 1] [0, 0, 0] [3] = 2 := by decide
theorem kn_chk : chk [] = 4 ∧ chk [2] = 1 := by decide
section
variable {w0 w : World} {l : List (Option Addr × Nat × List Int)} {A B C : Option Addr} {n m k c d f : Nat}
theorem k_dist (h : Wk w0 w ((B, m, List.replicate 16 0) :: (A, n, List.replicate 16 1) :: l)) : Calls Tryd.prog 23 #[.slice A n c, .slice B m d] w
    fun e w' => e = .returned (.tuple #[.int .i64 43690, .int .i64 0]) ∧ Wk w0 w' ((B, m, List.replicate 16 0) :: (A, n, List.replicate 16 1) :: l) := by
  have h1 := h.get (.tail _ (.head _))
  have h2 := h.get (.head _)
  refine (Distance_any A B n m c d _ _ w h1 h2 (max_of h1 (by simp)) (max_of h2 (by simp))).mono ?_
  intro e w' hr
  rw [kn_both, kn_dist] at hr; exact w_retI h hr
theorem k_check0 (h : Wk w0 w l) : Calls Tryd.prog 46 #[.slice none 0 0] w fun e w' => e = .returned (.int .i64 4) ∧ Wk w0 w' l := by
  refine (Check_any none 0 0 [] w RInts.none_ (by decide)).mono ?_
  intro e w' hr
  rw [kn_chk.1] at hr; exact w_retE h hr
theorem k_number (h : Wk w0 w ((A, n, [0, 0, 1]) :: l)) : Calls Tryd.prog 16 #[.slice A n c] w fun e w' => e = .returned (.tuple #[.int .i64 7, .int .i64 0]) ∧ Wk w0 w' l := by
  refine (Number_any A n c [0, 0, 1] w (h.get (.head _)) (max_of (h.get (.head _)) (by first | decide | simp))).mono ?_
  intro e w' hr
  rw [kn_c001, n001] at hr; exact w_retI h.drop hr
theorem k_moves (h : Wk w0 w ((A, n, [0, 0, 1]) :: l)) : Calls Tryd.prog 41 #[.slice A n c] w fun e w' => ∃ A n c, e = .returned (.tuple #[.slice A n c, .int .i64 0]) ∧ Wk w0 w' ((A, n, [0]) :: l) := by
  refine (Moves_any A n c [0, 0, 1] w (h.get (.head _)) (max_of (h.get (.head _)) (by first | decide | simp))).mono ?_
  intro e w' hr
  rw [kn_moves, kn_c001] at hr; exact w_retL h.drop hr
theorem k_next (h : Wk w0 w ((B, m, [0, 1]) :: (A, n, [1, 1]) :: l)) : Calls Tryd.prog 25 #[.slice A n c, .slice B m d] w fun e w' => e = .returned (.tuple #[.int .i64 0, .int .i64 0]) ∧ Wk w0 w' l := by
  refine (Next_any A B n m c d [1, 1] [0, 1] w (h.get (.tail _ (.head _))) (h.get (.head _)) (max_of (h.get (.tail _ (.head _))) (by first | decide | simp)) (max_of (h.get (.head _)) (by first | decide | simp)) h.2.2).mono ?_
  intro e w' hr
  rw [kn_next.1, kn_next.2] at hr; exact w_retI h.drop.drop hr
theorem k_way (h : Wk w0 w ((B, m, (List.replicate 16 0)) :: (A, n, (List.replicate 16 1)) :: l)) : Calls Tryd.prog 27 #[.slice A n c, .slice B m d] w fun e w' => ∃ A n c, e = .returned (.tuple #[.slice A n c, .int .i64 3]) ∧ Wk w0 w' l := by
  refine (Way_any A B n m c d (List.replicate 16 1) (List.replicate 16 0) w (h.get (.tail _ (.head _))) (h.get (.head _)) (max_of (h.get (.tail _ (.head _))) (by first | decide | simp)) (max_of (h.get (.head _)) (by first | decide | simp)) h.2.2).mono ?_
  intro e w' hr
  rw [kn_way] at hr; obtain ⟨A', n', c', e1, _, _, e3⟩ := hr; exact ⟨A', n', c', e1, h.drop.drop.step e3⟩
theorem k_far (h : Wk w0 w ((A, n, [0, 0, 0]) :: l)) : Calls Tryd.prog 20 #[.slice A n c] w fun e w' => ∃ A n c, e = .returned (.tuple #[.slice A n c, .int .i64 7, .int .i64 0]) ∧ Wk w0 w' ((A, n, [0, 0, 1]) :: l) := by
  refine (Far_any A n c [0, 0, 0] w (h.get (.head _)) (max_of (h.get (.head _)) (by first | decide | simp))).mono ?_
  intro e w' hr
  rw [kn_far.1, kn_far.2, kn_c000] at hr; obtain ⟨A', n', c', e1, e2, _, e3⟩ := hr; exact ⟨A', n', c', e1, (h.drop.step e3).add e2⟩
theorem k_tog (h : Wk w0 w ((B, m, [1]) :: (A, n, [1]) :: l)) : Calls Tryd.prog 35 #[.agg (pairC A n c B m d)] w fun e w' => e = .returned (.tuple #[.int .i64 2, .int .i64 0]) ∧ Wk w0 w' l := by
  refine (Together_any A B n m c d [1] [1] w (h.get (.tail _ (.head _))) (h.get (.head _)) (max_of (h.get (.tail _ (.head _))) (by first | decide | simp)) (max_of (h.get (.head _)) (by first | decide | simp))).mono ?_
  intro e w' hr
  rw [kn_tog, kn_pair] at hr; exact w_retI h.drop.drop hr
theorem k_leads1 (h : Wk w0 w ((C, k, [0]) :: (B, m, [0, 0, 0]) :: (A, n, [1, 1, 1]) :: l)) : Calls Tryd.prog 29 #[.slice A n c, .slice B m d, .slice C k f] w fun e w' => e = .returned (.int .i64 14) ∧ Wk w0 w' l := by
  refine (Leads_any A B C n m k c d f [1, 1, 1] [0, 0, 0] [0] w (h.get (.tail _ (.tail _ (.head _)))) (h.get (.tail _ (.head _))) (h.get (.head _)) (max_of (h.get (.tail _ (.tail _ (.head _)))) (by decide)) (max_of (h.get (.tail _ (.head _))) (by first | decide | simp)) (max_of (h.get (.head _)) (by first | decide | simp))).mono ?_
  intro e w' hr
  rw [kn_leads.1] at hr; exact w_retE h.drop.drop.drop hr
theorem k_leads2 (h : Wk w0 w ((C, k, [3]) :: (B, m, [0, 0, 0]) :: (A, n, [1, 1, 1]) :: l)) : Calls Tryd.prog 29 #[.slice A n c, .slice B m d, .slice C k f] w fun e w' => e = .returned (.int .i64 2) ∧ Wk w0 w' l := by
  refine (Leads_any A B C n m k c d f [1, 1, 1] [0, 0, 0] [3] w (h.get (.tail _ (.tail _ (.head _)))) (h.get (.tail _ (.head _))) (h.get (.head _)) (max_of (h.get (.tail _ (.tail _ (.head _)))) (by decide)) (max_of (h.get (.tail _ (.head _))) (by first | decide | simp)) (max_of (h.get (.head _)) (by first | decide | simp))).mono ?_
  intro e w' hr
  rw [kn_leads.2] at hr; exact w_retE h.drop.drop.drop hr
theorem k_check2 (h : Wk w0 w ((A, n, [2]) :: l)) : Calls Tryd.prog 46 #[.slice A n c] w fun e w' => e = .returned (.int .i64 1) ∧ Wk w0 w' l := by
  refine (Check_any A n c [2] w (h.get (.head _)) (max_of (h.get (.head _)) (by first | decide | simp))).mono ?_
  intro e w' hr
  rw [kn_chk.2] at hr; exact w_retE h.drop hr
end
set_option maxRecDepth 100000 in
set_option maxHeartbeats 16000000 in
theorem known_law (w1 : World) (hT : Tab w1) : Calls Tryd.prog 13 #[] w1 fun e w' => e = .returned (.bool true) ∧ Below w1.heap.size w1 w' := by
  have hS := Wk.start hT
  go_enter Tryd.func13, Tryd.ntmps13
  go_wp2_with (first
    | (go_at_call_of 48 (Value.slice (some ⟨w1.heap.size, 0, none⟩) 1 1); refine (w_list1 hS _).mono ?_; rintro e w1 ⟨g, rfl, hS2⟩; replace hS := hS2; clear hS2)
    | (go_at_call_of 48 (Value.slice (some ⟨w1.heap.size, 0, none⟩) 2 2); refine (w_list2 hS _ _).mono ?_; rintro e w1 ⟨g, rfl, hS2⟩; replace hS := hS2; clear hS2)
    | (go_at_call_of 48 (Value.slice (some ⟨w1.heap.size, 0, none⟩) 3 3); refine (w_list3 hS _ _ _).mono ?_; rintro e w1 ⟨g, rfl, hS2⟩; replace hS := hS2; clear hS2)
    | (go_at_call 16; refine (k_number hS).mono ?_; rintro e w1 ⟨rfl, hS2⟩; replace hS := hS2; clear hS2)
    | (go_at_call 41; refine (k_moves hS).mono ?_; rintro e w1 ⟨A, n, c, rfl, hS2⟩; replace hS := hS2; clear hS2)
    | (go_at_call 25; refine (k_next hS).mono ?_; rintro e w1 ⟨rfl, hS2⟩; replace hS := hS2; clear hS2))
  obtain ⟨wb, hwb⟩ : ∃ wb, wb = w1 := ⟨_, rfl⟩
  go_loopw [38, 7, 8] (fun i u v wr => ∃ k : Nat, k ≤ 16 ∧ i = .int .i64 k ∧ OwnI wr wb.heap.size u (List.replicate k 1) ∧ OwnI wr wb.heap.size v (List.replicate k 0) ∧ Hid (∀ g, u.ownBlock = some g → v.ownBlock ≠ some g) ∧ Below wb.heap.size wb wr) (fun i _ _ _ => 16 - (intOf i).toNat)
  case atStart => exact ⟨0, by omega, rfl, OwnI.nil _ _, OwnI.nil _ _, Lib.hid (fun _ h => by simp [Value.ownBlock] at h), by rw [hwb]; exact Below.refl _ _⟩
  case round =>
    obtain ⟨k, hk, rfl, hu, hv, hne, hbe⟩ := hrel
    by_cases hlt : k < 16
    · have _p1 := hT
      go_wp2_with (first
        | (at_builtin
           clear _p1
           refine wpList_push rfl _ _ rfl rfl (hu.none_ (World.grownBy_alloc wr _ none)) wr.heap.size 1 1 rfl (Blk.new _ _ _) (by simp; omega) (by simp; have := hbe.size; omega) ?_
           intro g5 cap5 w5 hu5 hg5 hat5 hlt5
           have hvA := hv.none_ (World.grownBy_alloc wr (.cells #[.int .i64 1] 3) none)
           have hv5 := OwnI.keep (w' := w5) hvA (fun g hg => hg5.block g (hvA.lt hg) (fun e => hne.out g e.symm hg))
           have hng := own_ne hat5 hne.out (fun g hg => hvA.lt hg)
           have hbe5 := (hbe.alloc hbe.size _).grown hg5 (by simp; have := hbe.size; omega) (fun j hj => hu.ge hj)
           clear hat5)
        | (at_builtin
           refine wpList_push rfl _ _ rfl rfl (hv5.none_ (World.grownBy_alloc w5 _ none)) w5.heap.size 1 0 rfl (Blk.new _ _ _) (by simp; omega) (by simp; have := hbe5.size; omega) ?_
           intro g6 cap6 w6 hv6 hg6 hat6 hlt6
           have huA := hu5.none_ (World.grownBy_alloc w5 (.cells #[.int .i64 0] 3) none)
           have hu6 := OwnI.keep (w' := w6) huA (fun g hg => hg6.block g (huA.lt hg) (fun e => by
             have h1 := hng g e.symm
             simp only [Value.ownBlock, Option.some.injEq] at hg
             omega))
           have hbe6 := (hbe5.alloc hbe5.size _).grown hg6 (by simp; have := hbe5.size; omega) (fun j hj => hv5.ge hj)
           have hne6 : g6 ≠ g5 := by
             rcases hat6 with e | e
             · exact hng _ e
             · simp at e; omega))
      rw [List.length_replicate, ← List.replicate_succ'] at hu6 hv6
      go_roundw
      case rel => exact ⟨k + 1, by omega, by go_num, hu6, hv6, Lib.hid (fun g h1 h2 => by simp only [Value.ownBlock, Option.some.injEq] at h1 h2; omega), hbe6⟩
      case measure => simp [intOf]; omega
    · obtain rfl : k = 16 := by omega
      have hS0 := hS
      rw [← hwb] at hS0
      obtain ⟨Au, cu, rfl, hru⟩ := hu.reads
      obtain ⟨Av, cv, rfl, hrv⟩ := hv.reads
      have hS := ((hS0.step hbe).add hru).add hrv
      have _k0 := hT
      have _k1 := hT
      have _k2 := hT
      have _k3 := hT
      have _k4 := hT
      have _k5 := hT
      go_wp2_with (first
        | (go_at_call_of 48 (Value.slice (some ⟨w1.heap.size, 0, none⟩) 1 1); refine (w_list1 hS _).mono ?_; rintro e w1 ⟨g, rfl, hS2⟩; replace hS := hS2; clear hS2)
        | (go_at_call_of 48 (Value.slice (some ⟨w1.heap.size, 0, none⟩) 2 2); refine (w_list2 hS _ _).mono ?_; rintro e w1 ⟨g, rfl, hS2⟩; replace hS := hS2; clear hS2)
        | (go_at_call_of 48 (Value.slice (some ⟨w1.heap.size, 0, none⟩) 3 3); refine (w_list3 hS _ _ _).mono ?_; rintro e w1 ⟨g, rfl, hS2⟩; replace hS := hS2; clear hS2)
        | (go_at_call 23; refine (k_dist hS).mono ?_; rintro e w1 ⟨rfl, hS2⟩; replace hS := hS2; clear hS2)
        | (go_at_call 20; refine (k_far hS).mono ?_; rintro e w1 ⟨A, n, c, rfl, hS2⟩; replace hS := hS2; clear hS2)
        | (go_at_call 35; refine (k_tog hS).mono ?_; rintro e w1 ⟨rfl, hS2⟩; replace hS := hS2; clear hS2)
        | (go_at_call 27; refine (k_way hS).mono ?_; rintro e w1 ⟨A, n, c, rfl, hS2⟩; replace hS := hS2; clear hS2)
        | (go_at_call 29; clear _k0; refine (k_leads1 hS).mono ?_; rintro e w1 ⟨rfl, hS2⟩; replace hS := hS2; clear hS2)
        | (go_at_call 29; clear _k1; refine (k_leads2 hS).mono ?_; rintro e w1 ⟨rfl, hS2⟩; replace hS := hS2; clear hS2)
        | (go_at_call 46; clear _k2; refine (k_check0 hS).mono ?_; rintro e w1 ⟨rfl, hS2⟩; replace hS := hS2; clear hS2)
        | (go_at_call 46; clear _k3; refine (k_check2 hS).mono ?_; rintro e w1 ⟨rfl, hS2⟩; replace hS := hS2; clear hS2)
        | (go_at_call 22; clear _k4; refine (w_same hS (.tail _ (.head _)) (by decide)).mono ?_; rintro e w1 ⟨rfl, hS2⟩; replace hS := hS2; clear hS2)
        | (go_at_call 22; clear _k5; refine (w_same hS (.head _) (by decide)).mono ?_; rintro e w1 ⟨rfl, hS2⟩; replace hS := hS2; clear hS2)
        | (go_at_call 15; refine (v_works hS).mono ?_; rintro e w1 ⟨rfl, hS2⟩; replace hS := hS2; clear hS2))
      go_ret
      exact ⟨rfl, hS.2.1⟩
end Go.Proofs.YtjhcemhnnkcjaaaDoor
