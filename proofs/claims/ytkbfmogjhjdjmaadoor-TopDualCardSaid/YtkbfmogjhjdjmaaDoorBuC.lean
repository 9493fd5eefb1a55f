/- bunch's within, Counts, Count, sum, Check, Number, turned, Turn. -/
import Derived.Test.YtkbfmogjhjdjmaaDoorBuT
import Derived.Test.YtkbfmogjhjdjmaaDoorPush
namespace Go.Proofs.YtkbfmogjhjdjmaaDoor
open Go.RowKit
def noTab : Array Value := Array.replicate 961 (.pointer none)
theorem zero_tally (w : World) : (zeroValue 100).run Tryd.prog w = .ok (.agg noTab) w := by
  have e : Tryd.zeroCells100 = noTab := by kernel_rfl
  rw [Tryd.zeroValue100, e]
theorem counts_go (g f m : Nat) (hf : f ≤ 30) (hm : m ≤ 30) (w : World) (hT : TInv w g) : Calls Tryd.prog 49 #[.pointer (some ⟨g, 0, none⟩), .int .i64 (f : Int), .int .i64 (m : Int)] w (RetT g (pV f m) w) :=
  counts_any g (f + min m f + 1) f m hf hm (Nat.lt_succ_self _) w hT
theorem TInv.start {w : World} {g : Nat} (h : Blk w g 100 noTab) : TInv w g :=
  ⟨_, h, by simp [noTab], fun f m hf hm => Or.inl (by unfold noTab; rw [Array.getElem?_replicate, if_pos (by omega)])⟩
namespace Bu
set_option maxRecDepth 100000 in
set_option maxHeartbeats 1000000 in
theorem within_any (n a b : Int) (w : World) : Calls Tryd.prog 48 #[.int .i64 n, .int .i64 a, .int .i64 b] w fun e w' => e = .returned (.bool (decide (a ≤ n ∧ n ≤ b))) ∧ w' = w := by
  by_cases h1 : a ≤ n
  · by_cases h2 : n ≤ b
    · have hR := Lib.hid (show decide (a ≤ n ∧ n ≤ b) = true by simp [h1, h2])
      go_enter Tryd.func48, Tryd.ntmps48
      go_wp2_with (fail)
      go_ret
      exact ⟨by first | rfl | (rw [hR.out]; rfl), rfl⟩
    · have hR := Lib.hid (show decide (a ≤ n ∧ n ≤ b) = false by simp [h2])
      have h3 : decide (n ≤ b) = false := by simp [h2]
      go_enter Tryd.func48, Tryd.ntmps48
      go_wp2_with (fail)
      go_ret
      exact ⟨by first | rfl | (rw [hR.out]; rfl), rfl⟩
  · have hR := Lib.hid (show decide (a ≤ n ∧ n ≤ b) = false by simp [h1])
    have h3 : decide (a ≤ n) = false := by simp [h1]
    go_enter Tryd.func48, Tryd.ntmps48
    go_wp2_with (fail)
    go_ret
    exact ⟨by first | rfl | (rw [hR.out]; rfl), rfl⟩
set_option maxRecDepth 100000 in
set_option maxHeartbeats 1000000 in
/-- how many divisions of small numbers -/
theorem Counts_in (f m : Nat) (hf : f ≤ 30) (hm : m ≤ 30) (w : World) : Calls Tryd.prog 45 #[.int .i64 (f : Int), .int .i64 (m : Int)] w fun e w' => e = .returned (.tuple #[.int .i64 (pV f m : Nat), .int .i64 0]) ∧ Below w.heap.size w w' := by
  have w1 := Lib.hid (fun w' => within_any (f : Int) 0 30 w')
  have w2 := Lib.hid (fun w' => within_any (m : Int) 0 30 w')
  rw [decide_eq_true (by omega)] at w1 w2
  go_enter Tryd.func45, Tryd.ntmps45
  go_wp2_with (first
    | (go_at_call 48; (with_reducible refine (w1.out _).mono ?_); rintro e wz ⟨rfl, hwz⟩; replace hwz := hwz.symm; subst hwz)
    | (go_at_call 48; (with_reducible refine (w2.out _).mono ?_); rintro e wz ⟨rfl, hwz⟩; replace hwz := hwz.symm; subst hwz)
    | (with_reducible show wpList _ _ _ (⟨_, .alloc 100, _, _, _, _⟩ :: _) _ _
       refine wpList_alloc_blk rfl 100 rfl _ zero_tally ?_
       intro w3 g hB hgr hge
       have hb3 := below_none (Below.refl w.heap.size w) hgr (Nat.le_refl _))
    | (go_at_call 49; (with_reducible refine (counts_go g f m hf hm _ (TInv.start hB)).mono ?_); rintro e w4 ⟨rfl, hT4, hg4⟩
       have hb4 := below_some hb3 hg4 hb3.size hge))
  go_ret2
  exact ⟨rfl, hb4⟩
set_option maxRecDepth 100000 in
set_option maxHeartbeats 1000000 in
theorem Count_in (f : Nat) (hf : f ≤ 30) (w : World) : Calls Tryd.prog 43 #[.int .i64 (f : Int)] w fun e w' => e = .returned (.tuple #[.int .i64 (pV f f : Nat), .int .i64 0]) ∧ Below w.heap.size w w' := by
  have hc := Lib.hid (fun w' => Counts_in f f hf hf w')
  have hmx : max (f : Int) 0 = f := by omega
  have hf0 : ¬ (f : Int) < 0 := by omega
  go_enter Tryd.func43, Tryd.ntmps43
  go_wp2_with (first
    | (go_at_call 45; (with_reducible refine (hc.out _).mono ?_); rintro e w1 ⟨rfl, hb1⟩))
  go_ret2
  exact ⟨rfl, hb1⟩
/-- a division, as a list of numbers -/
structure Div (xs : List Nat) : Prop where
  pos : ∀ x ∈ xs, 1 ≤ x ∧ x ≤ 30
  desc : xs.Pairwise (fun a b => b ≤ a)
  sum : xs.sum ≤ 30
def natI (xs : List Nat) : List Int := xs.map fun x : Nat => (x : Int)
theorem natI_at {xs : List Nat} {i : Nat} {z : Int} (h : (natI xs)[i]? = some z) : ∃ x, xs[i]? = some x ∧ z = (x : Int) := by
  unfold natI at h
  rw [List.getElem?_map] at h
  cases hx : xs[i]? with
  | none => rw [hx] at h; cases h
  | some x => rw [hx] at h; exact ⟨x, rfl, by simpa using h.symm⟩
theorem sum_take {xs : List Nat} {i x : Nat} (h : xs[i]? = some x) : (xs.take (i + 1)).sum = (xs.take i).sum + x := by
  rw [List.take_add_one, h, Option.toList_some, List.sum_append]
  simp
theorem sum_le (xs : List Nat) (i : Nat) : (xs.take i).sum ≤ xs.sum := by
  conv => rhs; rw [← List.take_append_drop i xs]
  rw [List.sum_append]
  omega
theorem Div.len {xs : List Nat} (h : Div xs) : xs.length ≤ 30 := by
  have : ∀ l : List Nat, (∀ x ∈ l, 1 ≤ x ∧ x ≤ 30) → l.length ≤ l.sum := by
    intro l
    induction l with
    | nil => intro _; simp
    | cons a l ih =>
      intro h
      have h1 := h a (by simp)
      have h2 := ih fun x hx => h x (by simp [hx])
      simp only [List.length_cons, List.sum_cons]
      omega
  have h1 := this xs h.pos
  have h2 := h.sum
  omega
theorem numD_step {xs : List Nat} {i x : Nat} (h : xs[i]? = some x) (left : Nat) : numD (xs.drop i) left = pV left (x - 1) + numD (xs.drop (i + 1)) (left - x) := by
  obtain ⟨hl, he⟩ := List.getElem?_eq_some_iff.1 h
  rw [List.drop_eq_getElem_cons hl, he, numD]
end Bu
end Go.Proofs.YtkbfmogjhjdjmaaDoor
