/- Plain: TopNested: what was tried, order by order. -/
import Derived.Test.YthbkfhhnhiplkaaGreatDoorNesP
namespace Go.Proofs.YthbkfhhnhiplkaaGreatDoor
namespace Ns
theorem tree_of {n : Nat} {ts : List (Nat × Nat)} (h1 : 1 ≤ n) (h9 : n ≤ 9) (h : treeOk n ts = true) : Br.Tree n ts := by
  unfold treeOk at h
  simp only [Bool.and_eq_true, decide_eq_true_eq, List.all_eq_true, List.mem_range] at h
  obtain ⟨⟨q1, q2⟩, q3⟩ := h
  refine ⟨h1, h9, q1, fun i a b hp => ?_, q3⟩
  have hi : i < ts.length := (List.getElem?_eq_some_iff.1 hp).1
  have h2 := q2 i hi
  rw [hp] at h2
  simp only [Bool.and_eq_true, decide_eq_true_eq, Bool.not_eq_true'] at h2
  obtain ⟨⟨⟨r1, r2⟩, r3⟩, r4⟩ := h2
  exact ⟨r1, r2, r3, r4⟩
structure TreeB (n : Nat) (W : List Nat) (cs : List Int) (at' : List Nat) : Prop where
  rea : Br.ReaOk n W
  way : ∀ i, i < at'.length → wayOk n W (cs.getD i 0) (at'.getD i 0) = true
  deg : (Br.degW W).getD 0 0 = (cs.filter fun c => c == 0).length
  max : n = 1 ∨ ((Br.reaW W).getD 0 0 : Int) = cs.foldl max 0
theorem treeB_of {n : Nat} {W : List Nat} {cs : List Int} {at' : List Nat} (h : treeB n W cs at' = true) : TreeB n W cs at' := by
  unfold treeB at h
  simp only [Bool.and_eq_true, Bool.or_eq_true, decide_eq_true_eq, List.all_eq_true, List.mem_range] at h
  obtain ⟨⟨⟨q1, q2⟩, q3⟩, q4⟩ := h
  exact ⟨q1, q2, q3, q4⟩
theorem way_of {n : Nat} {W : List Nat} {c : Int} {k : Nat} (h1 : 1 ≤ n) (h : wayOk n W c k = true) (hc : 0 ≤ c) : Br.WayOk n W 0 k ∧ ((Br.wayW W 0 k).length : Int) = c + 1 := by
  unfold wayOk at h
  simp only [Bool.and_eq_true, decide_eq_true_eq] at h
  obtain ⟨⟨q1, q2⟩, q3⟩ := h
  refine ⟨⟨h1, q1, q2, fun e => ?_⟩, q3⟩
  rw [e] at q3
  simp at q3
  omega
end Ns
end Go.Proofs.YthbkfhhnhiplkaaGreatDoor
