/- Check, opened, between; steps; the first customer for whom change lacks. -/
import Derived.Test.YtfcfhiekkpflcaaDoorIter
namespace Go.Proofs.YtfcfhiekkpflcaaDoor
open Go.RowKit
theorem drop_first {p : UInt8 → Bool} : ∀ {l : Word} {a : UInt8} {r : Word}, l.dropWhile p = a :: r → p a = false := by
  intro l
  induction l with
  | nil => intro a r h; cases h
  | cons b l ih =>
    intro a r h
    rw [List.dropWhile_cons] at h
    split at h
    · exact ih h
    · rename_i hb
      injection h with h1 h2
      rw [← h1]; simpa using hb
theorem trim_ok (l : Word) : (Lib.trimS l [99, 110]).isEmpty = okT l := by
  have hall : ∀ m : Word, (m.dropWhile fun b => List.contains [99, 110] b).isEmpty = m.all fun b => List.contains [99, 110] b := by
    intro m
    induction m with
    | nil => rfl
    | cons b m ih =>
      rw [List.dropWhile_cons, List.all_cons]
      by_cases hb : List.contains [99, 110] b = true
      · rw [if_pos hb, ih, hb]; rfl
      · rw [if_neg hb]
        simp only [Bool.not_eq_true] at hb
        rw [hb]; rfl
  have hok : okT l = l.all fun b => List.contains [99, 110] b := by
    unfold okT
    congr 1
    funext b
    rw [Bool.eq_iff_iff]
    simp
  unfold Lib.trimS Lib.trimLeftS Lib.trimRightS
  rw [hall, hok]
  cases hd : l.reverse.dropWhile fun b => List.contains [99, 110] b with
  | nil =>
    have := hall l.reverse
    rw [hd, List.all_reverse] at this
    rw [← this]; rfl
  | cons a r =>
    have ha := drop_first hd
    have := hall l.reverse
    rw [hd, List.all_reverse] at this
    rw [← this, List.all_reverse, List.all_cons, ha]
    rfl
set_option maxRecDepth 100000 in
set_option maxHeartbeats 4000000 in
theorem Check_any (s : ByteArray) (w : World) : Calls Tryd.prog 21 #[.string s] w fun e w' => e = .returned (.int .i64 (chkT (bts s))) ∧ Below w.heap.size w w' := by
  by_cases h16 : 16 < s.size
  · have hR := Lib.hid (show chkT (bts s) = 3 by unfold chkT; rw [bts_len, if_pos h16])
    have hi : (16 : Int) < s.size := by omega
    clear h16
    go_enter Tryd.func21, Tryd.ntmps21
    go_wp2_with (fail)
    go_ret
    exact ⟨by rw [hR.out]; rfl, Below.refl _ _⟩
  · have hi : ¬ (16 : Int) < s.size := by omega
    have hR := Lib.hid (show chkT (bts s) = if okT (bts s) then 0 else 10 by unfold chkT; rw [bts_len, if_neg h16])
    have htr := Lib.hid (fun w' => Tryd.strings_Trim s ⟨#[99, 110]⟩ w' (by omega) (by decide) (ascii_of_all (by decide)))
    obtain ⟨t, ht⟩ : ∃ t : ByteArray, (⟨(Lib.trimS s.data.toList (⟨#[99, 110]⟩ : ByteArray).data.toList).toArray⟩ : ByteArray) = t := ⟨_, rfl⟩
    have hte : t.toList.isEmpty = okT (bts s) := by
      rw [← ht, ByteArray.toList_eq, ← trim_ok]
      rfl
    rw [ht] at htr
    clear ht h16
    cases hq : okT (bts s) with
    | true =>
      rw [hq] at hte hR
      go_enter Tryd.func21, Tryd.ntmps21
      go_wp2_with (first
        | (go_at_call 54; (with_reducible refine (htr.out _).mono ?_); rintro e w1 ⟨rfl, hb1⟩))
      go_ret
      exact ⟨by rw [hR.out]; rfl, hb1⟩
    | false =>
      rw [hq] at hte hR
      go_enter Tryd.func21, Tryd.ntmps21
      go_wp2_with (first
        | (go_at_call 54; (with_reducible refine (htr.out _).mono ?_); rintro e w1 ⟨rfl, hb1⟩))
      go_ret
      exact ⟨by rw [hR.out]; rfl, hb1⟩
set_option maxRecDepth 100000 in
set_option maxHeartbeats 1000000 in
theorem between_any (a b c : Int) (w : World) : Calls Tryd.prog 59 #[.int .i64 a, .int .i64 b, .int .i64 c] w fun e w' => e = .returned (.bool (decide (a ≤ b ∧ b ≤ c))) ∧ w' = w := by
  by_cases h1 : a ≤ b
  · by_cases h2 : b ≤ c
    · have hR := Lib.hid (show decide (a ≤ b ∧ b ≤ c) = true by simp [h1, h2])
      go_enter Tryd.func59, Tryd.ntmps59
      go_wp2_with (fail)
      go_ret
      exact ⟨by first | rfl | (rw [hR.out]; rfl), rfl⟩
    · have hR := Lib.hid (show decide (a ≤ b ∧ b ≤ c) = false by simp [h2])
      have h3 : decide (b ≤ c) = false := by simp [h2]
      go_enter Tryd.func59, Tryd.ntmps59
      go_wp2_with (fail)
      go_ret
      exact ⟨by first | rfl | (rw [hR.out]; rfl), rfl⟩
  · have hR := Lib.hid (show decide (a ≤ b ∧ b ≤ c) = false by simp [h1])
    have h3 : decide (a ≤ b) = false := by simp [h1]
    go_enter Tryd.func59, Tryd.ntmps59
    go_wp2_with (fail)
    go_ret
    exact ⟨by first | rfl | (rw [hR.out]; rfl), rfl⟩
set_option maxRecDepth 100000 in
set_option maxHeartbeats 1000000 in
theorem opened_any (s : ByteArray) (b : Int) (w : World) : Calls Tryd.prog 47 #[.string s, .int .i64 b] w fun e w' => e = .returned (.int .i64 (opT (bts s) b)) ∧ Below w.heap.size w w' := by
  obtain ⟨k, hk⟩ : ∃ k, chkT (bts s) = k := ⟨_, rfl⟩
  have hkH := Lib.hid hk
  by_cases h0 : k = 0
  · subst h0
    obtain ⟨q, hq⟩ : ∃ q, decide ((0 : Int) ≤ b ∧ b ≤ 20) = q := ⟨_, rfl⟩
    have hqH := Lib.hid hq
    have hR := Lib.hid (show opT (bts s) b = if q then 0 else 1 by unfold opT; rw [if_neg (by simp [hk]), ← hq]; simp only [decide_eq_true_eq])
    clear hk hq
    cases q with
    | true =>
      go_enter Tryd.func47, Tryd.ntmps47
      go_wp2_with (first
        | (go_at_call 21; (with_reducible refine (Check_any _ _).mono ?_); rintro e w1 ⟨rfl, hb1⟩; rw [hkH.out])
        | (go_at_call 59; (with_reducible refine (between_any _ _ _ _).mono ?_); rintro e w2 ⟨rfl, rfl⟩; rw [hqH.out]))
      go_ret
      exact ⟨by rw [hR.out]; rfl, hb1⟩
    | false =>
      go_enter Tryd.func47, Tryd.ntmps47
      go_wp2_with (first
        | (go_at_call 21; (with_reducible refine (Check_any _ _).mono ?_); rintro e w1 ⟨rfl, hb1⟩; rw [hkH.out])
        | (go_at_call 59; (with_reducible refine (between_any _ _ _ _).mono ?_); rintro e w2 ⟨rfl, rfl⟩; rw [hqH.out]))
      go_ret
      exact ⟨by rw [hR.out]; rfl, hb1⟩
  · have hR := Lib.hid (show opT (bts s) b = k by unfold opT; rw [hk, if_pos h0])
    have hk0 : (k == 0) = false := by simp [h0]
    clear hk
    go_enter Tryd.func47, Tryd.ntmps47
    go_wp2_with (first
      | (go_at_call 21; (with_reducible refine (Check_any _ _).mono ?_); rintro e w1 ⟨rfl, hb1⟩; rw [hkH.out]))
    go_ret
    exact ⟨by rw [hR.out]; rfl, hb1⟩
set_option maxRecDepth 100000 in
set_option maxHeartbeats 4000000 in
theorem steps_any (s : ByteArray) (b : Int) (hs : s.size ≤ 1000) (hok : okT (bts s) = true) (hb : -1000000 ≤ b ∧ b ≤ 1000000) (w : World) : Calls Tryd.prog 49 #[.string s, .int .i64 b] w (RetI (stepsT b (bts s)) w) := by
  have hokH := Lib.hid hok
  obtain ⟨wm, hmk, hom, hgm⟩ := make_own s.size (by omega) w
  have hbm := below_none (Below.refl w.heap.size w) hgm (Nat.le_refl _)
  clear hok hgm
  go_enter Tryd.func49, Tryd.ntmps49
  go_wp2_with (fail)
  clear hmk
  go_loopw [1, 5] (fun v1 o wr => ∃ pos : Nat, pos ≤ s.size ∧ v1 = .int .i64 (endT b ((bts s).take pos)) ∧ OwnI wr w.heap.size o (stepsT b ((bts s).take pos)) ∧ wr.heap[wm.heap.size]? = some (.stringIter s pos) ∧ Below w.heap.size w wr) (fun _ _ wr => s.size - wr.iterPos wm.heap.size)
  case atStart => exact ⟨0, by omega, rfl, hom.none_ (World.grownBy_alloc wm _ none), by first | exact World.iter_heap wm s 0 | simp, hbm.alloc hbm.size _⟩
  case round =>
    obtain ⟨pos, hpos, rfl, ho, hit, hbe⟩ := hrel
    by_cases hp : pos < s.size
    · obtain ⟨y, wn, hy, hitn, hgn, hyy⟩ := iter_cn hokH.out hit hp
      have hben := below_some hbe hgn hbe.size (by have := hbm.size; omega)
      have hon := ho.some_ hgn (ho.ne_iter hit)
      have hbd := end_bound ((bts s).take pos) b
      have hpl : (stepsT b ((bts s).take pos)).length ≤ 1000000000 := by rw [steps_len, List.length_take, bts_len]; omega
      rw [List.length_take, bts_len] at hbd
      rcases hyy with ⟨rfl, hnx⟩ | ⟨rfl, hnx⟩
      · have he : endT b ((bts s).take (pos + 1)) = endT b ((bts s).take pos) + 1 := by rw [List.take_add_one, hy, Option.toList_some, end_snoc]; rfl
        have heH := Lib.hid he
        have hst := Lib.hid (show stepsT b ((bts s).take (pos + 1)) = stepsT b ((bts s).take pos) ++ [endT b ((bts s).take pos) + 1] by rw [List.take_add_one, hy, Option.toList_some, steps_snoc]; rfl)
        obtain ⟨E, hE⟩ : ∃ E, endT b ((bts s).take pos) = E := ⟨_, rfl⟩
        obtain ⟨P, hP⟩ : ∃ P, stepsT b ((bts s).take pos) = P := ⟨_, rfl⟩
        rw [hE] at hbd heH hst ⊢
        rw [hP] at hpl hst hon
        clear hE hP hy he
        obtain ⟨F, hF⟩ : ∃ F, E + 1 = F := ⟨_, rfl⟩
        rw [hF] at hst heH
        go_wp2_with (first
          | (at_builtin
             refine wpList_push rfl _ _ rfl rfl (hon.none_ (World.grownBy_alloc wn _ none)) wn.heap.size 1 F rfl (Blk.new wn _ _) hpl (by have := hben.size; show _ ≤ (wn.heap.push _).size; simp; omega) ?_
             intro g6 cap6 w6 ho6 hgr6 _ _
             have hb6 := (hben.alloc hben.size (.cells #[.int .i64 F] 3)).grown hgr6 (by have := hben.size; show _ ≤ (wn.heap.push _).size; simp; omega) (fun g hg => hon.ge hg)
             have hit6 := iter_stay (iter_stay hitn (World.grownBy_alloc wn (.cells #[.int .i64 F] 3) none) (by simp)) hgr6 (fun e => hon.ne_iter hitn e.symm)))
        go_roundw
        case rel => exact ⟨pos + 1, by omega, by rw [heH.out], by rw [hst.out]; simpa [OwnI] using ho6, hit6, hb6⟩
        case measure => simp only [World.iterPos, hit, hit6]; omega
      · have he : endT b ((bts s).take (pos + 1)) = endT b ((bts s).take pos) - 1 := by rw [List.take_add_one, hy, Option.toList_some, end_snoc]; rfl
        have heH := Lib.hid he
        have hst := Lib.hid (show stepsT b ((bts s).take (pos + 1)) = stepsT b ((bts s).take pos) ++ [endT b ((bts s).take pos) - 1] by rw [List.take_add_one, hy, Option.toList_some, steps_snoc]; rfl)
        obtain ⟨E, hE⟩ : ∃ E, endT b ((bts s).take pos) = E := ⟨_, rfl⟩
        obtain ⟨P, hP⟩ : ∃ P, stepsT b ((bts s).take pos) = P := ⟨_, rfl⟩
        rw [hE] at hbd heH hst ⊢
        rw [hP] at hpl hst hon
        clear hE hP hy he
        obtain ⟨F, hF⟩ : ∃ F, E - 1 = F := ⟨_, rfl⟩
        rw [hF] at hst heH
        go_wp2_with (first
          | (at_builtin
             refine wpList_push rfl _ _ rfl rfl (hon.none_ (World.grownBy_alloc wn _ none)) wn.heap.size 1 F rfl (Blk.new wn _ _) hpl (by have := hben.size; show _ ≤ (wn.heap.push _).size; simp; omega) ?_
             intro g6 cap6 w6 ho6 hgr6 _ _
             have hb6 := (hben.alloc hben.size (.cells #[.int .i64 F] 3)).grown hgr6 (by have := hben.size; show _ ≤ (wn.heap.push _).size; simp; omega) (fun g hg => hon.ge hg)
             have hit6 := iter_stay (iter_stay hitn (World.grownBy_alloc wn (.cells #[.int .i64 F] 3) none) (by simp)) hgr6 (fun e => hon.ne_iter hitn e.symm)))
        go_roundw
        case rel => exact ⟨pos + 1, by omega, by rw [heH.out], by rw [hst.out]; simpa [OwnI] using ho6, hit6, hb6⟩
        case measure => simp only [World.iterPos, hit, hit6]; omega
    · have hnx := iter_end hit hp
      rw [List.take_of_length_le (by rw [bts_len]; omega)] at ho
      go_wp2_with (fail)
      go_ret
      exact ⟨_, rfl, ho, hbe⟩
end Go.Proofs.YtfcfhiekkpflcaaDoor
