/- Plain: the best filling, size by size, from the last to the first: as few packets as can be, and as few of this size as may be. -/
import Derived.Test.YtbgakdpbglpfaaaGreatDoorKit
namespace Go.Proofs.YtbgakdpbglpfaaaGreatDoor
/-- the smallest t up to m at which c is least -/
def bestT (c : Nat → Int) : Nat → Nat
  | 0 => 0
  | m + 1 => if c (m + 1) < c (bestT c m) then m + 1 else bestT c m
theorem bestT_le (c : Nat → Int) : ∀ m, bestT c m ≤ m := by
  intro m
  induction m with
  | zero => exact Nat.le_refl _
  | succ m ih => rw [bestT]; split <;> omega
theorem bestT_min (c : Nat → Int) : ∀ m t, t ≤ m → c (bestT c m) ≤ c t := by
  intro m
  induction m with
  | zero => intro t h; obtain rfl : t = 0 := by omega
            exact Int.le_refl _
  | succ m ih =>
    intro t h
    rw [bestT]
    by_cases ht : t = m + 1
    · subst ht
      split
      · exact Int.le_refl _
      · omega
    · have := ih t (by omega)
      split <;> omega
theorem bestT_first (c : Nat → Int) : ∀ m t, t < bestT c m → c (bestT c m) < c t := by
  intro m
  induction m with
  | zero => intro t h; simp [bestT] at h
  | succ m ih =>
    intro t h
    rw [bestT] at h ⊢
    split at h
    · rename_i hc
      rw [if_pos hc]
      have := bestT_min c m t (by omega)
      omega
    · rename_i hc
      rw [if_neg hc]
      exact ih t h
theorem bestT_is {c : Nat → Int} {m b : Nat} (hb : b ≤ m) (h1 : ∀ t, t ≤ m → c b ≤ c t) (h2 : ∀ t, t < b → c b < c t) : b = bestT c m := by
  have a1 := bestT_min c m b hb
  have a2 := h1 (bestT c m) (bestT_le c m)
  rcases Nat.lt_trichotomy b (bestT c m) with h | h | h
  · have := bestT_first c m b h; omega
  · exact h
  · have := h2 _ h; omega
/-- how many packets, if t of them are of this size -/
def costT (few : List Int) (size x t : Nat) : Int := few.getD (x - t * size) 0 + t
def manyT (few : List Int) (size most x : Nat) : Nat := bestT (costT few size x) (min most (x / size))
def fewT (few : List Int) (size most x : Nat) : Int := min 1001 (costT few size x (manyT few size most x))
def stepF (few : List Int) (size most n : Nat) : List Int := (List.range (n + 1)).map (fewT few size most)
def stepB (few : List Int) (size most n : Nat) : List Int := (List.range (n + 1)).map fun x => (manyT few size most x : Int)
/-- sizes and stock by pairs, the last one first: the fewest packets for each number -/
def fewL (n : Nat) : List (Nat × Nat) → List Int
  | [] => 0 :: List.replicate n 1001
  | (s, m) :: l => stepF (fewL n l) s m n
/-- the filling: the first size first -/
def takeL (n : Nat) : List (Nat × Nat) → Nat → List Int
  | [], _ => []
  | (s, m) :: l, x => (manyT (fewL n l) s m x : Int) :: takeL n l (x - manyT (fewL n l) s m x * s)
/-- a window: the places at which the cost is least, from each place on -/
structure Win (c : Nat → Int) (lo j : Nat) (W : List Nat) : Prop where
  asc : W.Pairwise (fun a b => a < b ∧ c a < c b)
  rng : ∀ a ∈ W, lo ≤ a ∧ a ≤ j
  dom : ∀ i, lo ≤ i → i ≤ j → ∃ a ∈ W, i ≤ a ∧ c a ≤ c i
/-- those at the end that cost no less go -/
theorem Win.pop {c : Nat → Int} {lo j a : Nat} {W : List Nat} (hj : c (j + 1) ≤ c a) (h : (W ++ [a]).Pairwise (fun a b => a < b ∧ c a < c b) ∧ (∀ x ∈ W ++ [a], lo ≤ x ∧ x ≤ j) ∧ ∀ i, lo ≤ i → i ≤ j → (∃ a' ∈ W ++ [a], i ≤ a' ∧ c a' ≤ c i) ∨ c (j + 1) ≤ c i) :
    W.Pairwise (fun a b => a < b ∧ c a < c b) ∧ (∀ x ∈ W, lo ≤ x ∧ x ≤ j) ∧ ∀ i, lo ≤ i → i ≤ j → (∃ a' ∈ W, i ≤ a' ∧ c a' ≤ c i) ∨ c (j + 1) ≤ c i := by
  obtain ⟨h1, h2, h3⟩ := h
  rw [List.pairwise_append] at h1
  refine ⟨h1.1, fun x hx => h2 x (by simp [hx]), fun i hi1 hi2 => ?_⟩
  rcases h3 i hi1 hi2 with ⟨a', ha, hb, hc⟩ | h4
  · rcases List.mem_append.1 ha with ha | ha
    · exact Or.inl ⟨a', ha, hb, hc⟩
    · have : a' = a := by simpa using ha
      subst this
      exact Or.inr (by omega)
  · exact Or.inr h4
theorem Win.push {c : Nat → Int} {lo j : Nat} {W : List Nat} (hl : ∀ a ∈ W, c a < c (j + 1)) (hlo : lo ≤ j + 1) (h : W.Pairwise (fun a b => a < b ∧ c a < c b) ∧ (∀ x ∈ W, lo ≤ x ∧ x ≤ j) ∧ ∀ i, lo ≤ i → i ≤ j → (∃ a' ∈ W, i ≤ a' ∧ c a' ≤ c i) ∨ c (j + 1) ≤ c i) : Win c lo (j + 1) (W ++ [j + 1]) := by
  obtain ⟨h1, h2, h3⟩ := h
  refine ⟨?_, fun a ha => ?_, fun i hi1 hi2 => ?_⟩
  · rw [List.pairwise_append]
    refine ⟨h1, by simp, fun a ha b hb => ?_⟩
    have : b = j + 1 := by simpa using hb
    subst this
    exact ⟨by have := (h2 a ha).2; omega, hl a ha⟩
  · rcases List.mem_append.1 ha with ha | ha
    · have := h2 a ha; omega
    · have : a = j + 1 := by simpa using ha
      omega
  · by_cases hij : i = j + 1
    · exact ⟨j + 1, by simp, by omega, by rw [hij]; exact Int.le_refl _⟩
    · rcases h3 i hi1 (by omega) with ⟨a, ha, hb, hc⟩ | h4
      · exact ⟨a, by simp [ha], hb, hc⟩
      · exact ⟨j + 1, by simp, by omega, h4⟩
theorem Win.one (c : Nat → Int) : Win c 0 0 [0] :=
  ⟨by simp, fun a ha => by have : a = 0 := by simpa using ha
                           omega, fun i _ hi => ⟨0, by simp, hi, by obtain rfl : i = 0 := by omega
                                                                    exact Int.le_refl _⟩⟩
/-- the first one goes where it is too far away -/
theorem Win.slide {c : Nat → Int} {lo j a : Nat} {W : List Nat} (h : Win c lo j (a :: W)) (ha : a < lo + 1) : Win c (lo + 1) j W := by
  have h1 := h.asc
  rw [List.pairwise_cons] at h1
  have hal := (h.rng a (by simp)).1
  refine ⟨h1.2, fun b hb => ?_, fun i hi1 hi2 => ?_⟩
  · have := (h1.1 b hb).1
    have := h.rng b (by simp [hb])
    omega
  · obtain ⟨b, hb, hc, hd⟩ := h.dom i (by omega) hi2
    rcases List.mem_cons.1 hb with rfl | hb
    · omega
    · exact ⟨b, hb, hc, hd⟩
theorem Win.keep {c : Nat → Int} {lo j a : Nat} {W : List Nat} (h : Win c lo j (a :: W)) (ha : lo + 1 ≤ a) : Win c (lo + 1) j (a :: W) := by
  have h1 := h.asc
  rw [List.pairwise_cons] at h1
  refine ⟨h.asc, fun b hb => ?_, fun i hi1 hi2 => h.dom i (by omega) hi2⟩
  rcases List.mem_cons.1 hb with rfl | hb
  · exact ⟨ha, (h.rng _ (by simp)).2⟩
  · have := (h1.1 b hb).1
    exact ⟨by omega, (h.rng b (by simp [hb])).2⟩
theorem Win.head {c : Nat → Int} {lo j a : Nat} {W : List Nat} (h : Win c lo j (a :: W)) : lo ≤ a ∧ a ≤ j ∧ (∀ i, lo ≤ i → i ≤ j → c a ≤ c i) ∧ ∀ i, a < i → i ≤ j → c a < c i := by
  have h1 := h.asc
  rw [List.pairwise_cons] at h1
  have hr := h.rng a (by simp)
  refine ⟨hr.1, hr.2, fun i hi1 hi2 => ?_, fun i hi1 hi2 => ?_⟩
  · obtain ⟨b, hb, hc, hd⟩ := h.dom i hi1 hi2
    rcases List.mem_cons.1 hb with rfl | hb
    · exact hd
    · have := (h1.1 b hb).2; omega
  · obtain ⟨b, hb, hc, hd⟩ := h.dom i (by omega) hi2
    rcases List.mem_cons.1 hb with rfl | hb
    · omega
    · have := (h1.1 b hb).2; omega
theorem Win.ne {c : Nat → Int} {lo j : Nat} {W : List Nat} (h : Win c lo j W) (hl : lo ≤ j) : ∃ a r, W = a :: r := by
  obtain ⟨a, ha, _⟩ := h.dom j hl (Nat.le_refl _)
  cases W with
  | nil => cases ha
  | cons a r => exact ⟨a, r, rfl⟩
/-- the first place of the window tells how many of this size -/
theorem win_many {few : List Int} {size most r j a : Nat} {W : List Nat} (hr : r < size) (h : Win (fun i => few.getD (r + i * size) 0 - i) (j - most) j (a :: W)) :
    j - a = manyT few size most (r + j * size) ∧ costT few size (r + j * size) (j - a) = few.getD (r + a * size) 0 + j - a := by
  obtain ⟨h1, h2, h3, h4⟩ := h.head
  have hdiv : (r + j * size) / size = j := by
    rw [Nat.add_mul_div_right _ _ (by omega), Nat.div_eq_of_lt hr]; omega
  have hc : ∀ t, t ≤ j → costT few size (r + j * size) t = few.getD (r + (j - t) * size) 0 + t := fun t ht => by
    unfold costT
    have e : j * size = (j - t) * size + t * size := by rw [← Nat.add_mul]; congr 1; omega
    rw [show r + j * size - t * size = r + (j - t) * size by omega]
  refine ⟨?_, ?_⟩
  · unfold manyT
    rw [hdiv]
    refine bestT_is (by omega) (fun t ht => ?_) (fun t ht => ?_)
    · rw [hc _ (by omega), hc _ (by omega), show j - (j - a) = a by omega]
      have := h3 (j - t) (by omega) (by omega)
      omega
    · rw [hc _ (by omega), hc _ (by omega), show j - (j - a) = a by omega]
      have := h4 (j - t) (by omega) (by omega)
      omega
  · rw [hc _ (by omega), show j - (j - a) = a by omega]
    omega
theorem stepF_at {few : List Int} {size most n x : Nat} (h : x ≤ n) : (stepF few size most n)[x]? = some (fewT few size most x) := by
  unfold stepF
  rw [List.getElem?_map, List.getElem?_range (by omega)]
  rfl
theorem stepB_at {few : List Int} {size most n x : Nat} (h : x ≤ n) : (stepB few size most n)[x]? = some (manyT few size most x : Int) := by
  unfold stepB
  rw [List.getElem?_map, List.getElem?_range (by omega)]
  rfl
end Go.Proofs.YtbgakdpbglpfaaaGreatDoor
