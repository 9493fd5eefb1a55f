/- The law TopNested: its tools. -/
import Derived.Test.YthbkfhhnhiplkaaGreatDoorNesU
import Derived.Test.YthbkfhhnhiplkaaGreatDoorTwC
namespace Go.Proofs.YthbkfhhnhiplkaaGreatDoor
open Go.RowKit
namespace Ns
open Bu (natI natI_at)
theorem tArr_pairs : ∀ ps : List (Nat × Nat), Br.tArr ps = Ti.pairsV ps := by
  intro ps
  induction ps with
  | nil => rfl
  | cons p l ih =>
    obtain ⟨a, b⟩ := p
    rw [Br.tArr, ih]
    rfl
/-- an own list of pairs reads as ties -/
theorem own_ties {w : World} {base : Nat} {v : Value} {ps : List (Nat × Nat)} (h : Ti.OwnP w base v ps) : ∃ A c, v = .slice A ps.length c ∧ ps.length ≤ c ∧ Br.TieS w A ps := by
  rcases h.2 with ⟨rfl, h0⟩ | ⟨g, cap, cur, rfl, hb, hg, hc, hm, hsz, htk⟩
  · exact ⟨none, 0, by rw [h0], by omega, Or.inl (List.eq_nil_of_length_eq_zero h0)⟩
  · refine ⟨_, _, rfl, hc, Or.inr ⟨g, cur, rfl, hg, fun j u hj => ?_⟩⟩
    rw [tArr_pairs, ← htk, List.getElem?_take] at hj
    split at hj
    · simpa using hj
    · cases hj
/-- what a pair of ties reads as -/
theorem ties_at {w : World} {A : Option Addr} {ps : List (Nat × Nat)} {i a b : Nat} (h : Br.TieS w A ps) (hi : ps[i]? = some (a, b)) : ∃ g, A = some ⟨g, 0, none⟩ ∧ w.cell? ⟨g, i * 2, none⟩ = some (.int .i64 (a : Int)) ∧ w.cell? ⟨g, i * 2 + 1, none⟩ = some (.int .i64 (b : Int)) := by
  rcases h with h | ⟨g, cs, e, hB, hc⟩
  · rw [h] at hi
    simp at hi
  · have h2 := Br.tArr_at ps i a b hi
    exact ⟨g, e, by rw [hB.cell]; exact hc _ _ h2.1, by rw [hB.cell]; exact hc _ _ h2.2⟩
/-- what was made, with zeroes for the customers to come -/
def madeL (m : Nat) (M : List Nat) : List Nat := M ++ List.replicate (m - M.length) 0
theorem madeL_len {m : Nat} {M : List Nat} (h : M.length ≤ m) : (madeL m M).length = m := by simp [madeL]; omega
theorem madeL_nil (m : Nat) : madeL m [] = List.replicate m 0 := by simp [madeL]
theorem madeL_zero {m : Nat} {M : List Nat} (h : M.length < m) : madeL m (M ++ [0]) = madeL m M := by
  unfold madeL
  rw [List.length_append, List.length_singleton, List.append_assoc, show m - M.length = (m - (M.length + 1)) + 1 by omega, List.replicate_succ]
  rfl
theorem madeL_set {m : Nat} {M : List Nat} (h : M.length < m) (y : Nat) : (madeL m M).set M.length y = madeL m (M ++ [y]) := by
  unfold madeL
  rw [List.set_append_right _ _ (Nat.le_refl _), Nat.sub_self, List.length_append, List.length_singleton, List.append_assoc, show m - M.length = (m - (M.length + 1)) + 1 by omega, List.replicate_succ]
  rfl
theorem madeL_at {m a : Nat} {M : List Nat} (h : a < M.length) : (madeL m M)[a]? = some (M.getD a 0) := by
  unfold madeL
  rw [List.getElem?_append_left h, List.getD_eq_getElem?_getD, List.getElem?_eq_getElem h]
  rfl
theorem natI_set (l : List Nat) (i y : Nat) : (natI l).set i (y : Int) = natI (l.set i y) := by simp [natI, List.map_set]
theorem natI_snoc (l : List Nat) (y : Nat) : natI l ++ [(y : Int)] = natI (l ++ [y]) := by simp [natI]
theorem natI_len (l : List Nat) : (natI l).length = l.length := by simp [natI]
/-- the top is cut off an own list -/
theorem own_cut {w : World} {base g cap n : Nat} {xs : List Int} {y : Int} (h : OwnI w base (.slice (some ⟨g, 0, none⟩) n cap) (xs ++ [y])) : OwnI w base (.slice (some ⟨g, 0, none⟩) xs.length cap) xs := by
  refine ⟨by rw [ints_length, Nat.mul_one], ?_⟩
  rcases h.2 with ⟨e, _⟩ | ⟨g', cap', cur, e, hb, hg, hc, hm, hsz, htk⟩
  · cases e
  · injection e with e1 e2 e3
    injection e1 with e1
    injection e1 with e1
    subst e1 e3
    right
    refine ⟨g, cap, cur, rfl, hb, hg, ?_, hm, hsz, ?_⟩
    · rw [List.length_append, List.length_singleton] at hc; omega
    · have e : ints xs = (ints (xs ++ [y])).take xs.length := by rw [ints_append, List.take_append_of_le_length (by rw [ints_length]; exact Nat.le_refl _), List.take_of_length_le (by rw [ints_length]; exact Nat.le_refl _)]
      rw [e, ← htk, List.take_take]
      congr 1
      simp
/-- an own list whose last one is x: where it lies, and what is left without it -/
theorem own_last {w : World} {base : Nat} {v : Value} {l : List Nat} {x : Nat} (h : OwnI w base v (natI (l ++ [x]))) : ∃ g c, v = .slice (some ⟨g, 0, none⟩) (l.length + 1) c ∧ l.length + 1 ≤ c ∧ base ≤ g ∧ g < w.heap.size ∧ w.cell? ⟨g, l.length, none⟩ = some (.int .i64 (x : Int)) ∧ OwnI w base (.slice (some ⟨g, 0, none⟩) l.length c) (natI l) := by
  have hl : (natI (l ++ [x])).length = l.length + 1 := by simp [natI]
  obtain ⟨g, c, rfl, hc, hb, hlt, hcell⟩ := OwnI.full h (by omega)
  rw [hl] at hc
  rw [hl] at h
  refine ⟨g, c, by rw [hl], hc, hb, hlt, ?_, ?_⟩
  · have h2 := hcell l.length (by omega)
    rw [h2]
    simp [natI, List.getD]
  · have e : natI (l ++ [x]) = natI l ++ [(x : Int)] := by simp [natI]
    rw [e] at h
    have h3 := own_cut h
    rwa [natI_len] at h3
theorem zero_tree (w : World) : (zeroValue 35).run Tryz.prog w = .ok (.agg #[.int .i64 0, .slice none 0 0]) w := Tryz.zeroValue35 w
theorem info_tree : (Tryz.prog.info? 35).map (·.size) = some 2 := by kernel_rfl
theorem add_nil (ad : Addr) : ad.add 0 = ad := by unfold Addr.add; split <;> simp_all
theorem own_form {w : World} {base : Nat} {v : Value} {xs : List Int} (h : OwnI w base v xs) : ∃ A c, v = .slice A xs.length c ∧ RInts w w.heap.size A xs.length xs ∧ (0 < xs.length → ∃ g, A = some ⟨g, 0, none⟩) := by
  obtain ⟨A, c, e, hr⟩ := h.reads
  refine ⟨A, c, e, hr, fun hn => ?_⟩
  obtain ⟨g, c2, e2, _⟩ := OwnI.full h hn
  rw [e] at e2
  injection e2 with e2
  exact ⟨g, e2⟩
theorem foldl_max : ∀ (xs : List Int) (a : Int), (∀ x ∈ xs, 0 ≤ x) → 0 ≤ a → xs.foldl max a = max a (xs.foldl max 0) := by
  intro xs
  induction xs with
  | nil => intro a _ ha; simp [Int.max_eq_left ha]
  | cons y l ih =>
    intro a h ha
    have hy := h y List.mem_cons_self
    have h2 : ∀ x ∈ l, 0 ≤ x := fun x hx => h x (List.mem_cons_of_mem _ hx)
    rw [List.foldl_cons, List.foldl_cons, ih (max a y) h2 (by omega), ih (max 0 y) h2 (by omega)]
    omega
theorem maxOf_eq {xs : List Int} (h : ∀ x ∈ xs, 0 ≤ x) (hne : 0 < xs.length) : Lib.maxOf xs = xs.foldl max 0 := by
  cases xs with
  | nil => simp at hne
  | cons y l =>
    have hy := h y List.mem_cons_self
    have h2 : ∀ x ∈ l, 0 ≤ x := fun x hx => h x (List.mem_cons_of_mem _ hx)
    show (y :: l).foldl max y = (y :: l).foldl max 0
    rw [foldl_max (y :: l) y h hy, List.foldl_cons, foldl_max l (max 0 y) h2 (by omega)]
    omega
theorem count_at {cs : List Int} {j : Nat} {z : Int} (h : cs[j]? = some z) : ((cs.take (j + 1)).filter fun c => c == 0).length = ((cs.take j).filter fun c => c == 0).length + (if z = 0 then 1 else 0) := by
  rw [List.take_add_one, h, Option.toList_some, List.filter_append, List.length_append]
  congr 1
  by_cases hz : z = 0
  · subst hz; rfl
  · have : (z == 0) = false := by simpa using hz
    simp [this, hz]
end Ns
end Go.Proofs.YthbkfhhnhiplkaaGreatDoor
