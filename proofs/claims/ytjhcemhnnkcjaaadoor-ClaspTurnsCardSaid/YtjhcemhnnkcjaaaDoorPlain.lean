/- What the clasps compute, as plain functions on lists: no program in sight. -/
import Derived.Test.YtjhcemhnnkcjaaaDoorKit
namespace Go.Proofs.YtjhcemhnnkcjaaaDoor

def okx (x : Int) : Bool := x == 0 || x == 1
/-- the error of a position -/
def chk (xs : List Int) : Int := if xs.length = 0 then 4 else if 16 < xs.length then 3 else if xs.all okx then 0 else 1
theorem chk_empty {xs : List Int} (h : xs.length = 0) : chk xs = 4 := by simp [chk, h]
theorem chk_many {xs : List Int} (h : 16 < xs.length) : chk xs = 3 := by rw [chk, if_neg (by omega), if_pos h]
theorem chk_bad {xs : List Int} {k : Nat} {x : Int} (h0 : xs.length ≠ 0) (h1 : ¬ 16 < xs.length) (hx : xs[k]? = some x) (ho : okx x = false) : chk xs = 1 := by
  rw [chk, if_neg h0, if_neg h1, if_neg]
  intro h
  rw [List.all_eq_true] at h
  rw [h x (List.mem_of_getElem? hx)] at ho
  cases ho
theorem chk_ok {xs : List Int} (h0 : xs.length ≠ 0) (h1 : ¬ 16 < xs.length) (h : xs.all okx = true) : chk xs = 0 := by
  rw [chk, if_neg h0, if_neg h1, if_pos h]
theorem all_step {xs : List Int} {k : Nat} {x : Int} (h : (xs.take k).all okx = true) (hx : xs[k]? = some x) (ho : okx x = true) : (xs.take (k + 1)).all okx = true := by
  rw [List.take_add_one, hx]; simp [List.all_append, h, ho]
theorem all_end {xs : List Int} {k : Nat} (h : (xs.take k).all okx = true) (hk : xs.length ≤ k) : xs.all okx = true := by
  rwa [List.take_of_length_le hk] at h

theorem chk_zero {xs : List Int} (h : chk xs = 0) : xs.length ≠ 0 ∧ xs.length ≤ 16 ∧ xs.all okx = true := by
  unfold chk at h
  by_cases h0 : xs.length = 0
  · simp [h0] at h
  by_cases h1 : 16 < xs.length
  · simp [h0, h1] at h
  by_cases h2 : xs.all okx = true
  · exact ⟨h0, by omega, h2⟩
  · simp [h0, h1, h2] at h
theorem okx_of_chk {xs : List Int} {k : Nat} {x : Int} (h : chk xs = 0) (hx : xs[k]? = some x) : okx x = true :=
  (List.all_eq_true.1 (chk_zero h).2.2) x (List.mem_of_getElem? hx)

/-! the cells of a rest: how many rings, and which ones are on -/
def restC (n : Nat) (b : List Bool) : Array Value := (Value.int .i64 (n : Int) :: b.map Value.bool).toArray
theorem restC_size (n : Nat) (b : List Bool) : (restC n b).size = b.length + 1 := by simp [restC]
theorem restC_zero (n : Nat) (b : List Bool) : (restC n b)[0]? = some (.int .i64 (n : Int)) := by simp [restC]
theorem restC_at (n : Nat) (b : List Bool) (k : Nat) : (restC n b)[1 + k]? = (b[k]?).map Value.bool := by
  rw [Nat.add_comm]; simp [restC]
theorem restC_set (n : Nat) (b : List Bool) (k : Nat) (x : Bool) : (restC n b).setIfInBounds (1 + k) (.bool x) = restC n (b.set k x) := by
  rw [Nat.add_comm]; simp [restC, List.map_set]
theorem restC_one (n : Nat) (b : List Bool) : (restC n b).all (·.oneCell') = true := by
  simp [restC, Value.oneCell']
/-- which of sixteen rings are on -/
def pad (xs : List Int) : List Bool := (List.range 16).map fun k => xs[k]? == some 1
theorem pad_length (xs : List Int) : (pad xs).length = 16 := by simp [pad]
theorem pad_nil : pad [] = List.replicate 16 false := by decide
theorem pad_step {xs : List Int} {k : Nat} {x : Int} (hk : k < 16) (hx : xs[k]? = some x) : (pad (xs.take k)).set k (x == 1) = pad (xs.take (k + 1)) := by
  apply List.ext_getElem?
  intro j
  rw [List.getElem?_set]
  simp only [pad, List.length_map, List.length_range, List.getElem?_map]
  by_cases hj : k = j
  · subst hj
    simp [hk, hx]
  · rw [if_neg hj]
    by_cases h16 : j < 16
    · simp only [List.getElem?_range h16, Option.map_some, List.getElem?_take]
      by_cases h : j < k
      · simp [h, show j < k + 1 by omega]
      · simp [h, show ¬ j < k + 1 by omega]
    · simp [h16]
theorem pad_end {xs : List Int} {k : Nat} (hk : xs.length ≤ k) : pad (xs.take k) = pad xs := by rw [List.take_of_length_le hk]
end Go.Proofs.YtjhcemhnnkcjaaaDoor
