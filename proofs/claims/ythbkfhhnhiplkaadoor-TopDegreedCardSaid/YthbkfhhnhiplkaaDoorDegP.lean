/- Plain: what the law TopDegreed asks: all numbers of knots are tried. -/
import Derived.Test.YthbkfhhnhiplkaaDoorBuH
import Derived.Test.YthbkfhhnhiplkaaDoorBrA
namespace Go.Proofs.YthbkfhhnhiplkaaDoor
namespace Dg
def divL (n k : Nat) : List Nat := nthF (n - 2) (n - 2) k
def degs (n : Nat) (L : List Nat) : List Nat := (List.range n).map fun i => L.getD i 0 + 1
def oftG (L : List Nat) : Nat → List Nat
  | 0 => List.replicate 8 0
  | i + 1 => (oftG L i).set (L.getD i 0) ((oftG L i).getD (L.getD i 0) 0 + 1)
def facU : Nat → Nat → Nat → Nat
  | 0, _, o => o
  | u + 1, i, o => facU u (i + 1) (o * i)
def divU : Nat → Nat → Nat → Nat
  | 0, _, o => o
  | u + 1, i, o => divU u (i + 1) (o / i)
def divA : List Nat → Nat → Nat
  | [], o => o
  | m :: l, o => divA l (divU (m - 1) 2 o)
def ordN (n : Nat) (L : List Nat) : Nat := divA (oftG L n) (facU (n - 1) 2 1)
def termN (n k : Nat) : Nat := Br.withV (degs n (divL n k)) * ordN n (divL n k)
def sumN (n : Nat) : Nat → Nat
  | 0 => 0
  | k + 1 => sumN n k + termN n k
def oneOk (n k : Nat) : Bool := decide ((divL n k).length ≤ n - 2) && decide (∀ x ∈ divL n k, x ≤ 7) && decide (2 ≤ (degs n (divL n k)).length) && decide ((degs n (divL n k)).length ≤ 8)
  && decide (∀ d ∈ degs n (divL n k), 1 ≤ d ∧ d ≤ (degs n (divL n k)).length - 1) && decide ((degs n (divL n k)).sum = 2 * (degs n (divL n k)).length - 2)
  && decide (Br.withV (degs n (divL n k)) ≤ 100000) && decide (ordN n (divL n k) ≤ 100000) && decide (sumN n k ≤ 1000000)
def allOk (n : Nat) : Bool := decide (1 ≤ pV (n - 2) (n - 2)) && decide (pV (n - 2) (n - 2) ≤ 11) && (List.range (pV (n - 2) (n - 2))).all (oneOk n) && decide (sumN n (pV (n - 2) (n - 2)) = n ^ (n - 2))
set_option maxRecDepth 100000 in
theorem deg_all : ((List.range 7).all fun n => allOk (n + 2)) = true := by decide +kernel
theorem getD_le {l : List Nat} {b : Nat} (h : ∀ x ∈ l, x ≤ b) (i : Nat) : l.getD i 0 ≤ b := by
  rw [List.getD_eq_getElem?_getD]
  by_cases hi : i < l.length
  · rw [List.getElem?_eq_getElem hi]
    exact h _ (List.getElem_mem hi)
  · rw [List.getElem?_eq_none (by omega)]
    exact Nat.zero_le _
structure One (n k : Nat) : Prop where
  len : (divL n k).length ≤ n - 2
  sm : ∀ i, (divL n k).getD i 0 ≤ 7
  dg : Br.Deg (degs n (divL n k))
  wv : Br.withV (degs n (divL n k)) ≤ 100000
  ov : ordN n (divL n k) ≤ 100000
  sv : sumN n k ≤ 1000000
structure All (n : Nat) : Prop where
  lo : 1 ≤ pV (n - 2) (n - 2)
  hi : pV (n - 2) (n - 2) ≤ 11
  one : ∀ k, k < pV (n - 2) (n - 2) → One n k
  tot : sumN n (pV (n - 2) (n - 2)) = n ^ (n - 2)
theorem all_of {n : Nat} (h2 : 2 ≤ n) (h8 : n ≤ 8) : All n := by
  have h := deg_all
  rw [List.all_eq_true] at h
  have h1 := h (n - 2) (List.mem_range.2 (by omega))
  rw [show n - 2 + 2 = n by omega] at h1
  unfold allOk at h1
  simp only [Bool.and_eq_true, decide_eq_true_eq, List.all_eq_true, List.mem_range] at h1
  obtain ⟨⟨⟨q1, q2⟩, q3⟩, q4⟩ := h1
  refine ⟨q1, q2, fun k hk => ?_, q4⟩
  have h3 := q3 k hk
  unfold oneOk at h3
  simp only [Bool.and_eq_true, decide_eq_true_eq] at h3
  obtain ⟨⟨⟨⟨⟨⟨⟨⟨r1, r2⟩, r3⟩, r4⟩, r5⟩, r6⟩, r7⟩, r8⟩, r9⟩ := h3
  exact ⟨r1, getD_le r2, ⟨r3, r4, r5, r6⟩, r7, r8, r9⟩
theorem oft_len (L : List Nat) (i : Nat) : (oftG L i).length = 8 := by
  induction i with
  | zero => simp [oftG]
  | succ i ih => rw [oftG, List.length_set, ih]
theorem deg_len (n : Nat) (L : List Nat) : (degs n L).length = n := by simp [degs]
theorem deg_at {n i : Nat} {L : List Nat} (h : i < n) : (degs n L)[i]? = some (L.getD i 0 + 1) := by
  unfold degs
  rw [List.getElem?_map, List.getElem?_range h]
  rfl
theorem divA_at {l : List Nat} {i m : Nat} (h : l[i]? = some m) (o : Nat) : divA (l.drop i) o = divA (l.drop (i + 1)) (divU (m - 1) 2 o) := by
  obtain ⟨hj, he⟩ := List.getElem?_eq_some_iff.1 h
  rw [List.drop_eq_getElem_cons hj, he, divA]
/-- how often: at most as often as there were -/
theorem oft_le (L : List Nat) (i : Nat) : ∀ x ∈ oftG L i, x ≤ i := by
  induction i with
  | zero =>
    intro x hx
    have : x = 0 := List.eq_of_mem_replicate (show x ∈ List.replicate 8 0 from hx)
    omega
  | succ i ih =>
    intro x hx
    rw [oftG] at hx
    rcases List.mem_or_eq_of_mem_set hx with hx | rfl
    · have := ih x hx; omega
    · by_cases h : L.getD i 0 < (oftG L i).length
      · have := ih ((oftG L i).getD (L.getD i 0) 0) (by rw [List.getD_eq_getElem?_getD, List.getElem?_eq_getElem h]; exact List.getElem_mem h)
        omega
      · rw [List.getD_eq_getElem?_getD, List.getElem?_eq_none (by omega)]
        simp
end Dg
end Go.Proofs.YthbkfhhnhiplkaaDoor
