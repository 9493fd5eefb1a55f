/- The texts PkP to PkC, joined by joinlist.py: their statements say what each proves. -/
import Derived.Test.YtkbfmogjhjdjmaaDoorKit
import Derived.Test.YtkbfmogjhjdjmaaDoorBuC
import Derived.Test.YtkbfmogjhjdjmaaDoorShelf
import Derived.Test.YtkbfmogjhjdjmaaDoorRowK
-- the text PkP
namespace Go.Proofs.YtkbfmogjhjdjmaaDoor
/-- the smallest t up to m at which c is least -/
def bestT (c : Nat → Int) : Nat → Nat
  | 0 => 0
  | m + 1 => if c (m + 1) < c (bestT c m) then m + 1 else bestT c m
theorem bestT_le (c : Nat → Int) : ∀ m, bestT c m ≤ m := by
  intro m
  induction m with
  | zero => exact Nat.le_refl _
  | succ m ih => rw [bestT]; split <;> omega
theorem bestT_min (c : Nat → Int) : ∀ m t, t ≤ m → c (bestT c m) ≤ c t := by
  intro m
  induction m with
  | zero => intro t h; obtain rfl : t = 0 := by omega
            exact Int.le_refl _
  | succ m ih =>
    intro t h
    rw [bestT]
    by_cases ht : t = m + 1
    · subst ht
      split
      · exact Int.le_refl _
      · omega
    · have := ih t (by omega)
      split <;> omega
theorem bestT_first (c : Nat → Int) : ∀ m t, t < bestT c m → c (bestT c m) < c t := by
  intro m
  induction m with
  | zero => intro t h; simp [bestT] at h
  | succ m ih =>
    intro t h
    rw [bestT] at h ⊢
    split at h
    · rename_i hc
      rw [if_pos hc]
      have := bestT_min c m t (by omega)
      omega
    · rename_i hc
      rw [if_neg hc]
      exact ih t h
theorem bestT_is {c : Nat → Int} {m b : Nat} (hb : b ≤ m) (h1 : ∀ t, t ≤ m → c b ≤ c t) (h2 : ∀ t, t < b → c b < c t) : b = bestT c m := by
  have a1 := bestT_min c m b hb
  have a2 := h1 (bestT c m) (bestT_le c m)
  rcases Nat.lt_trichotomy b (bestT c m) with h | h | h
  · have := bestT_first c m b h; omega
  · exact h
  · have := h2 _ h; omega
theorem bestT_congr {c d : Nat → Int} : ∀ m, (∀ t, t ≤ m → c t = d t) → bestT c m = bestT d m := by
  intro m
  induction m with
  | zero => intro _; rfl
  | succ m ih =>
    intro h
    have e := ih fun t ht => h t (by omega)
    have hl := bestT_le d m
    rw [bestT, bestT, e, h (m + 1) (by omega), h (bestT d m) (by omega)]
/-- how many packets, if t of them are of this size -/
def costT (few : List Int) (size x t : Nat) : Int := few.getD (x - t * size) 0 + t
def manyT (few : List Int) (size most x : Nat) : Nat := bestT (costT few size x) (min most (x / size))
def fewT (few : List Int) (size most x : Nat) : Int := min 1001 (costT few size x (manyT few size most x))
def stepF (few : List Int) (size most n : Nat) : List Int := (List.range (n + 1)).map (fewT few size most)
def stepB (few : List Int) (size most n : Nat) : List Int := (List.range (n + 1)).map fun x => (manyT few size most x : Int)
/-- sizes and stock by pairs, the last one first: the fewest packets for each number -/
def fewL (n : Nat) : List (Nat × Nat) → List Int
  | [] => 0 :: List.replicate n 1001
  | (s, m) :: l => stepF (fewL n l) s m n
/-- the filling: the first size first -/
def takeL (n : Nat) : List (Nat × Nat) → Nat → List Int
  | [], _ => []
  | (s, m) :: l, x => (manyT (fewL n l) s m x : Int) :: takeL n l (x - manyT (fewL n l) s m x * s)
/-- a window: the places at which the cost is least, from each place on -/
structure Win (c : Nat → Int) (lo j : Nat) (W : List Nat) : Prop where
  asc : W.Pairwise (fun a b => a < b ∧ c a < c b)
  rng : ∀ a ∈ W, lo ≤ a ∧ a ≤ j
  dom : ∀ i, lo ≤ i → i ≤ j → ∃ a ∈ W, i ≤ a ∧ c a ≤ c i
/-- those at the end that cost no less go -/
theorem Win.pop {c : Nat → Int} {lo j a : Nat} {W : List Nat} (hj : c (j + 1) ≤ c a) (h : (W ++ [a]).Pairwise (fun a b => a < b ∧ c a < c b) ∧ (∀ x ∈ W ++ [a], lo ≤ x ∧ x ≤ j) ∧ ∀ i, lo ≤ i → i ≤ j → (∃ a' ∈ W ++ [a], i ≤ a' ∧ c a' ≤ c i) ∨ c (j + 1) ≤ c i) :
    W.Pairwise (fun a b => a < b ∧ c a < c b) ∧ (∀ x ∈ W, lo ≤ x ∧ x ≤ j) ∧ ∀ i, lo ≤ i → i ≤ j → (∃ a' ∈ W, i ≤ a' ∧ c a' ≤ c i) ∨ c (j + 1) ≤ c i := by
  obtain ⟨h1, h2, h3⟩ := h
  rw [List.pairwise_append] at h1
  refine ⟨h1.1, fun x hx => h2 x (by simp [hx]), fun i hi1 hi2 => ?_⟩
  rcases h3 i hi1 hi2 with ⟨a', ha, hb, hc⟩ | h4
  · rcases List.mem_append.1 ha with ha | ha
    · exact Or.inl ⟨a', ha, hb, hc⟩
    · have : a' = a := by simpa using ha
      subst this
      exact Or.inr (by omega)
  · exact Or.inr h4
theorem Win.push {c : Nat → Int} {lo j : Nat} {W : List Nat} (hl : ∀ a ∈ W, c a < c (j + 1)) (hlo : lo ≤ j + 1) (h : W.Pairwise (fun a b => a < b ∧ c a < c b) ∧ (∀ x ∈ W, lo ≤ x ∧ x ≤ j) ∧ ∀ i, lo ≤ i → i ≤ j → (∃ a' ∈ W, i ≤ a' ∧ c a' ≤ c i) ∨ c (j + 1) ≤ c i) : Win c lo (j + 1) (W ++ [j + 1]) := by
  obtain ⟨h1, h2, h3⟩ := h
  refine ⟨?_, fun a ha => ?_, fun i hi1 hi2 => ?_⟩
  · rw [List.pairwise_append]
    refine ⟨h1, by simp, fun a ha b hb => ?_⟩
    have : b = j + 1 := by simpa using hb
    subst this
    exact ⟨by have := (h2 a ha).2; omega, hl a ha⟩
  · rcases List.mem_append.1 ha with ha | ha
    · have := h2 a ha; omega
    · have : a = j + 1 := by simpa using ha
      omega
  · by_cases hij : i = j + 1
    · exact ⟨j + 1, by simp, by omega, by rw [hij]; exact Int.le_refl _⟩
    · rcases h3 i hi1 (by omega) with ⟨a, ha, hb, hc⟩ | h4
      · exact ⟨a, by simp [ha], hb, hc⟩
      · exact ⟨j + 1, by simp, by omega, h4⟩
theorem Win.one (c : Nat → Int) : Win c 0 0 [0] :=
  ⟨by simp, fun a ha => by have : a = 0 := by simpa using ha
                           omega, fun i _ hi => ⟨0, by simp, hi, by obtain rfl : i = 0 := by omega
                                                                    exact Int.le_refl _⟩⟩
/-- the first one goes where it is too far away -/
theorem Win.slide {c : Nat → Int} {lo j a : Nat} {W : List Nat} (h : Win c lo j (a :: W)) (ha : a < lo + 1) : Win c (lo + 1) j W := by
  have h1 := h.asc
  rw [List.pairwise_cons] at h1
  have hal := (h.rng a (by simp)).1
  refine ⟨h1.2, fun b hb => ?_, fun i hi1 hi2 => ?_⟩
  · have := (h1.1 b hb).1
    have := h.rng b (by simp [hb])
    omega
  · obtain ⟨b, hb, hc, hd⟩ := h.dom i (by omega) hi2
    rcases List.mem_cons.1 hb with rfl | hb
    · omega
    · exact ⟨b, hb, hc, hd⟩
theorem Win.keep {c : Nat → Int} {lo j a : Nat} {W : List Nat} (h : Win c lo j (a :: W)) (ha : lo + 1 ≤ a) : Win c (lo + 1) j (a :: W) := by
  have h1 := h.asc
  rw [List.pairwise_cons] at h1
  refine ⟨h.asc, fun b hb => ?_, fun i hi1 hi2 => h.dom i (by omega) hi2⟩
  rcases List.mem_cons.1 hb with rfl | hb
  · exact ⟨ha, (h.rng _ (by simp)).2⟩
  · have := (h1.1 b hb).1
    exact ⟨by omega, (h.rng b (by simp [hb])).2⟩
theorem Win.head {c : Nat → Int} {lo j a : Nat} {W : List Nat} (h : Win c lo j (a :: W)) : lo ≤ a ∧ a ≤ j ∧ (∀ i, lo ≤ i → i ≤ j → c a ≤ c i) ∧ ∀ i, a < i → i ≤ j → c a < c i := by
  have h1 := h.asc
  rw [List.pairwise_cons] at h1
  have hr := h.rng a (by simp)
  refine ⟨hr.1, hr.2, fun i hi1 hi2 => ?_, fun i hi1 hi2 => ?_⟩
  · obtain ⟨b, hb, hc, hd⟩ := h.dom i hi1 hi2
    rcases List.mem_cons.1 hb with rfl | hb
    · exact hd
    · have := (h1.1 b hb).2; omega
  · obtain ⟨b, hb, hc, hd⟩ := h.dom i (by omega) hi2
    rcases List.mem_cons.1 hb with rfl | hb
    · omega
    · have := (h1.1 b hb).2; omega
theorem Win.ne {c : Nat → Int} {lo j : Nat} {W : List Nat} (h : Win c lo j W) (hl : lo ≤ j) : ∃ a r, W = a :: r := by
  obtain ⟨a, ha, _⟩ := h.dom j hl (Nat.le_refl _)
  cases W with
  | nil => cases ha
  | cons a r => exact ⟨a, r, rfl⟩
/-- the first place of the window tells how many of this size -/
theorem win_many {few : List Int} {size most r j a : Nat} {W : List Nat} (hr : r < size) (h : Win (fun i => few.getD (r + i * size) 0 - i) (j - most) j (a :: W)) :
    j - a = manyT few size most (r + j * size) ∧ costT few size (r + j * size) (j - a) = few.getD (r + a * size) 0 + j - a := by
  obtain ⟨h1, h2, h3, h4⟩ := h.head
  have hdiv : (r + j * size) / size = j := by
    rw [Nat.add_mul_div_right _ _ (by omega), Nat.div_eq_of_lt hr]; omega
  have hc : ∀ t, t ≤ j → costT few size (r + j * size) t = few.getD (r + (j - t) * size) 0 + t := fun t ht => by
    unfold costT
    have e : j * size = (j - t) * size + t * size := by rw [← Nat.add_mul]; congr 1; omega
    rw [show r + j * size - t * size = r + (j - t) * size by omega]
  refine ⟨?_, ?_⟩
  · unfold manyT
    rw [hdiv]
    refine bestT_is (by omega) (fun t ht => ?_) (fun t ht => ?_)
    · rw [hc _ (by omega), hc _ (by omega), show j - (j - a) = a by omega]
      have := h3 (j - t) (by omega) (by omega)
      omega
    · rw [hc _ (by omega), hc _ (by omega), show j - (j - a) = a by omega]
      have := h4 (j - t) (by omega) (by omega)
      omega
  · rw [hc _ (by omega), show j - (j - a) = a by omega]
    omega
theorem stepF_at {few : List Int} {size most n x : Nat} (h : x ≤ n) : (stepF few size most n)[x]? = some (fewT few size most x) := by
  unfold stepF
  rw [List.getElem?_map, List.getElem?_range (by omega)]
  rfl
theorem stepB_at {few : List Int} {size most n x : Nat} (h : x ≤ n) : (stepB few size most n)[x]? = some (manyT few size most x : Int) := by
  unfold stepB
  rw [List.getElem?_map, List.getElem?_range (by omega)]
  rfl
end Go.Proofs.YtkbfmogjhjdjmaaDoor
-- the text PkQ
namespace Go.Proofs.YtkbfmogjhjdjmaaDoor
namespace Pk
/-- what is filled of the rows: all remainders below r, and j numbers of remainder r -/
def Dn (few : List Int) (s mo N r j : Nat) (XL YL : List Int) : Prop := XL.length = N + 1 ∧ YL.length = N + 1 ∧
  ∀ x, x ≤ N → (x % s < r ∨ (x % s = r ∧ x / s < j)) → XL[x]? = some (fewT few s mo x) ∧ YL[x]? = some (manyT few s mo x : Int)
theorem Dn.start (few : List Int) (s mo N : Nat) : Dn few s mo N 0 0 (List.replicate (N + 1) 0) (List.replicate (N + 1) 0) :=
  ⟨by simp, by simp, fun x _ h => by rcases h with h | ⟨_, h⟩ <;> exact absurd h (Nat.not_lt_zero _)⟩
theorem num_of {s r j : Nat} (hr : r < s) : (r + j * s) % s = r ∧ (r + j * s) / s = j := by
  rw [Nat.add_mul_mod_self_right, Nat.mod_eq_of_lt hr, Nat.add_mul_div_right _ _ (by omega), Nat.div_eq_of_lt hr]
  omega
theorem of_num {s x r j : Nat} (h1 : x % s = r) (h2 : x / s = j) : x = r + j * s := by
  have := Nat.mod_add_div x s
  rw [h1, h2, Nat.mul_comm] at this
  omega
theorem Dn.step {few : List Int} {s mo N r j : Nat} {XL YL : List Int} (h : Dn few s mo N r j XL YL) {x : Nat} (hx : r + j * s = x) (hxN : x ≤ N) :
    Dn few s mo N r (j + 1) (XL.set x (fewT few s mo x)) (YL.set x (manyT few s mo x : Int)) := by
  obtain ⟨h1, h2, h3⟩ := h
  refine ⟨by simpa using h1, by simpa using h2, fun y hy hc => ?_⟩
  by_cases he : x = y
  · subst he
    rw [List.getElem?_set_self (by omega), List.getElem?_set_self (by omega)]
    exact ⟨rfl, rfl⟩
  · rw [List.getElem?_set_ne he, List.getElem?_set_ne he]
    refine h3 y hy ?_
    rcases hc with hc | ⟨h4, h5⟩
    · exact Or.inl hc
    · by_cases h6 : y / s = j
      · exact absurd (hx.symm.trans (of_num h4 h6).symm) he
      · exact Or.inr ⟨h4, by omega⟩
theorem Dn.next {few : List Int} {s mo N r j : Nat} {XL YL : List Int} (h : Dn few s mo N r j XL YL) (hj : N < r + j * s) : Dn few s mo N (r + 1) 0 XL YL := by
  obtain ⟨h1, h2, h3⟩ := h
  refine ⟨h1, h2, fun y hy hc => h3 y hy ?_⟩
  by_cases h4 : y % s = r
  · refine Or.inr ⟨h4, ?_⟩
    have e := of_num h4 (rfl : y / s = y / s)
    rcases Nat.lt_or_ge (y / s) j with h5 | h5
    · exact h5
    · have := Nat.mul_le_mul_right s h5
      omega
  · rcases hc with hc | ⟨_, hc⟩
    · exact Or.inl (by generalize y % s = q at *; omega)
    · exact absurd hc (Nat.not_lt_zero _)
theorem Dn.whole {few : List Int} {s mo N r : Nat} {XL YL : List Int} (h : Dn few s mo N r 0 XL YL) (hs : 1 ≤ s) (hr : min s (N + 1) ≤ r) : XL = stepF few s mo N ∧ YL = stepB few s mo N := by
  obtain ⟨h1, h2, h3⟩ := h
  have hk : ∀ x, x ≤ N → x % s < r := fun x hx => by
    have a := Nat.mod_lt x hs
    have b := Nat.mod_le x s
    generalize x % s = q at *
    omega
  refine ⟨List.ext_getElem? fun x => ?_, List.ext_getElem? fun x => ?_⟩
  · by_cases hx : x ≤ N
    · rw [stepF_at hx, (h3 x hx (Or.inl (hk x hx))).1]
    · rw [List.getElem?_eq_none (by omega), List.getElem?_eq_none (by simp [stepF]; omega)]
  · by_cases hx : x ≤ N
    · rw [stepB_at hx, (h3 x hx (Or.inl (hk x hx))).2]
    · rw [List.getElem?_eq_none (by omega), List.getElem?_eq_none (by simp [stepB]; omega)]
/-- what the rows of the fewest hold -/
theorem few_len (N : Nat) (l : List (Nat × Nat)) : (fewL N l).length = N + 1 := by
  cases l with
  | nil => simp [fewL]
  | cons p l => obtain ⟨s, m⟩ := p; simp [fewL, stepF]
theorem few_rng (N : Nat) (l : List (Nat × Nat)) : ∀ x, 0 ≤ (fewL N l).getD x 0 ∧ (fewL N l).getD x 0 ≤ 1001 := by
  induction l with
  | nil =>
    intro x
    rw [fewL, List.getD_eq_getElem?_getD]
    cases x with
    | zero => simp
    | succ x =>
      rw [List.getElem?_cons_succ, List.getElem?_replicate]
      split <;> simp
  | cons p l ih =>
    obtain ⟨s, m⟩ := p
    intro x
    rw [fewL, List.getD_eq_getElem?_getD]
    by_cases hx : x ≤ N
    · rw [stepF_at hx, Option.getD_some, fewT]
      have := ih (x - manyT (fewL N l) s m x * s)
      unfold costT
      omega
    · rw [List.getElem?_eq_none (by simp [stepF]; omega)]
      simp
theorem many_le (few : List Int) (s m x : Nat) : manyT few s m x ≤ m ∧ manyT few s m x * s ≤ x := by
  have h := bestT_le (costT few s x) (min m (x / s))
  unfold manyT
  refine ⟨by omega, ?_⟩
  have h2 : bestT (costT few s x) (min m (x / s)) ≤ x / s := by omega
  exact Nat.le_trans (Nat.mul_le_mul_right s h2) (Nat.div_mul_le_self x s)
/-- the window: what it holds ahead of number j -/
def Wn (few : List Int) (s mo r j : Nat) (W : List Nat) : Prop := match j with
  | 0 => W = []
  | j + 1 => Win (fun i => few.getD (r + i * s) 0 - i) (j - mo) j W
/-- while numbers at its end go -/
def Wp (few : List Int) (s mo r j : Nat) (W : List Nat) : Prop := match j with
  | 0 => W = []
  | j + 1 => W.Pairwise (fun a b => a < b ∧ few.getD (r + a * s) 0 - a < few.getD (r + b * s) 0 - b) ∧ (∀ x ∈ W, j - mo ≤ x ∧ x ≤ j) ∧
    ∀ i, j - mo ≤ i → i ≤ j → (∃ a' ∈ W, i ≤ a' ∧ few.getD (r + a' * s) 0 - a' ≤ few.getD (r + i * s) 0 - i) ∨ few.getD (r + (j + 1) * s) 0 - ((j + 1 : Nat) : Int) ≤ few.getD (r + i * s) 0 - i
theorem Wn.begin {few : List Int} {s mo r j : Nat} {W : List Nat} (h : Wn few s mo r j W) : Wp few s mo r j W := by
  cases j with
  | zero => exact h
  | succ j => exact ⟨h.asc, h.rng, fun i h1 h2 => Or.inl (h.dom i h1 h2)⟩
theorem Wp.pop {few : List Int} {s mo r j a : Nat} {W : List Nat} (h : Wp few s mo r j (W ++ [a])) (hc : few.getD (r + j * s) 0 - (j : Int) ≤ few.getD (r + a * s) 0 - (a : Int)) : Wp few s mo r j W := by
  cases j with
  | zero => exact absurd (show W ++ [a] = [] from h) (by simp)
  | succ j => exact Win.pop (c := fun i => few.getD (r + i * s) 0 - i) hc h
theorem Wp.lt {few : List Int} {s mo r j : Nat} {W : List Nat} (h : Wp few s mo r j W) : ∀ a ∈ W, a < j := by
  cases j with
  | zero => intro a ha; rw [show W = [] from h] at ha; cases ha
  | succ j => intro a ha; have := (h.2.1 a ha).2; omega
/-- the last one stays: so all stay -/
theorem Wp.stay {few : List Int} {s mo r j : Nat} {W : List Nat} (h : Wp few s mo r j W) (hl : W = [] ∨ ∃ V a, W = V ++ [a] ∧ few.getD (r + a * s) 0 - (a : Int) < few.getD (r + j * s) 0 - (j : Int)) :
    Win (fun i => few.getD (r + i * s) 0 - i) (j - 1 - mo) j (W ++ [j]) := by
  cases j with
  | zero =>
    rw [show W = [] from h]
    have := Win.one fun i => few.getD (r + i * s) 0 - (i : Int)
    rwa [show 0 - 1 - mo = 0 by omega]
  | succ j =>
    rw [Nat.add_sub_cancel]
    refine Win.push (c := fun i => few.getD (r + i * s) 0 - i) (fun a ha => ?_) (by omega) h
    rcases hl with rfl | ⟨V, b, rfl, hb⟩
    · cases ha
    · rcases List.mem_append.1 ha with ha | ha
      · have h1 := h.1
        rw [List.pairwise_append] at h1
        have := (h1.2.2 a ha b (by simp)).2
        show few.getD (r + a * s) 0 - (a : Int) < few.getD (r + (j + 1) * s) 0 - ((j + 1 : Nat) : Int)
        omega
      · have e : a = b := by simpa using ha
        rw [e]; exact hb
/-- the window slides -/
theorem win_slide {few : List Int} {s mo r j a : Nat} {W : List Nat} (h : Win (fun i => few.getD (r + i * s) 0 - i) (j - 1 - mo) j (a :: W)) (ha : (a : Int) < j - mo) : Win (fun i => few.getD (r + i * s) 0 - i) (j - mo) j W := by
  have h1 := (h.rng a (by simp)).1
  have h2 := h.slide (show a < (j - 1 - mo) + 1 by omega)
  rwa [show j - 1 - mo + 1 = j - mo by omega] at h2
theorem win_keep {few : List Int} {s mo r j a : Nat} {W : List Nat} (h : Win (fun i => few.getD (r + i * s) 0 - i) (j - 1 - mo) j (a :: W)) (ha : ¬ (a : Int) < j - mo) : Win (fun i => few.getD (r + i * s) 0 - i) (j - mo) j (a :: W) := by
  by_cases hz : j ≤ mo
  · rwa [show j - 1 - mo = j - mo by omega] at h
  · have h2 := h.keep (show (j - 1 - mo) + 1 ≤ a by omega)
    rwa [show j - 1 - mo + 1 = j - mo by omega] at h2
end Pk
end Go.Proofs.YtkbfmogjhjdjmaaDoor
-- the text PkA
namespace Go.Proofs.YtkbfmogjhjdjmaaDoor
open Go.RowKit
namespace Pk
open Bu (natI natI_at)
set_option maxRecDepth 100000 in
set_option maxHeartbeats 1000000 in
theorem within_any (n a b : Int) (w : World) : Calls Tryd.prog 80 #[.int .i64 n, .int .i64 a, .int .i64 b] w fun e w' => e = .returned (.bool (decide (a ≤ n ∧ n ≤ b))) ∧ w' = w := by
  by_cases h1 : a ≤ n
  · by_cases h2 : n ≤ b
    · have hR := Lib.hid (show decide (a ≤ n ∧ n ≤ b) = true by simp [h1, h2])
      go_enter Tryd.func80, Tryd.ntmps80
      go_wp2_with (fail)
      go_ret
      exact ⟨by first | rfl | (rw [hR.out]; rfl), rfl⟩
    · have hR := Lib.hid (show decide (a ≤ n ∧ n ≤ b) = false by simp [h2])
      have h3 : decide (n ≤ b) = false := by simp [h2]
      go_enter Tryd.func80, Tryd.ntmps80
      go_wp2_with (fail)
      go_ret
      exact ⟨by first | rfl | (rw [hR.out]; rfl), rfl⟩
  · have hR := Lib.hid (show decide (a ≤ n ∧ n ≤ b) = false by simp [h1])
    have h3 : decide (a ≤ n) = false := by simp [h1]
    go_enter Tryd.func80, Tryd.ntmps80
    go_wp2_with (fail)
    go_ret
    exact ⟨by first | rfl | (rw [hR.out]; rfl), rfl⟩
/-- sizes -/
structure Siz (ss : List Nat) : Prop where
  one : 1 ≤ ss.length
  five : ss.length ≤ 5
  rng : ∀ x ∈ ss, 1 ≤ x ∧ x ≤ 30
  asc : ss.Pairwise (fun a b => a < b)
set_option maxRecDepth 100000 in
set_option maxHeartbeats 1000000 in
theorem Check_ok (A : Option Addr) (n c : Nat) (ss : List Nat) (hD : Siz ss) (w : World) (B : Nat) (hr : RInts w B A n (natI ss)) : Calls Tryd.prog 86 #[.slice A n c] w fun e w' => e = .returned (.int .i64 0) ∧ w' = w := by
  have hln := hr.len
  have hxl : ss.length = n := by simpa [natI] using hln
  have hDH := Lib.hid hD
  have h1 := hD.one
  have h5 := hD.five
  have hn0 : ((n : Int) == 0) = false := by simp; omega
  have hn5 : ¬ (5 : Int) < n := by omega
  go_enter Tryd.func86, Tryd.ntmps86
  go_wp2_with (fail)
  go_loopw [3, 16] (fun l v wr => ∃ i last : Nat, i ≤ n ∧ v = .int .i64 i ∧ l = .int .i64 last ∧ Hid (∀ x, ss[i]? = some x → last < x) ∧ w = wr) (fun _ v _ => n - (intOf v).toNat)
  case atStart => exact ⟨0, 0, by omega, rfl, rfl, Lib.hid (fun x hx => by have := (hDH.out.rng x (List.mem_of_getElem? hx)).1; omega), rfl⟩
  case round =>
    obtain ⟨i, last, hi, rfl, rfl, hlast, hw⟩ := hrel
    subst hw
    by_cases hlt : i < n
    · have hlti : (i : Int) < n := by omega
      obtain ⟨ad, z, rfl, _, hcell, hz⟩ := hr.at_ hlt
      obtain ⟨x, hx, rfl⟩ := natI_at hz.out
      have hxp := hDH.out.rng x (List.mem_of_getElem? hx)
      have hxl2 := hlast.out x hx
      have hxl3 : ¬ (x : Int) ≤ last := by omega
      have hwi := Lib.hid (fun w' => within_any (x : Int) 1 30 w')
      rw [decide_eq_true (by omega)] at hwi
      have hnext := Lib.hid (show ∀ y, ss[i + 1]? = some y → x < y from fun y hy => by
        obtain ⟨h1, e1⟩ := List.getElem?_eq_some_iff.1 hx
        obtain ⟨h2, e2⟩ := List.getElem?_eq_some_iff.1 hy
        have := List.pairwise_iff_getElem.1 hDH.out.asc i (i + 1) h1 h2 (by omega)
        rw [e1, e2] at this
        exact this)
      clear hx
      go_wp2_with (first
        | (go_at_call 80; (with_reducible refine (hwi.out _).mono ?_); rintro e wz ⟨rfl, hwz⟩; replace hwz := hwz.symm; subst hwz))
      go_roundw
      case rel => exact ⟨i + 1, x, by omega, by go_num, rfl, hnext, by first | rfl | trivial⟩
      case measure => simp only [intOf]; omega
    · have hlti : ¬ (i : Int) < n := by omega
      go_wp2_with (fail)
      go_ret
      exact ⟨rfl, rfl⟩
/-- what a stock holds -/
structure Stk (ss ms : List Nat) : Prop where
  siz : Siz ss
  len : ms.length = ss.length
  rng : ∀ x ∈ ms, x ≤ 40
theorem RInts.none_none {w : World} {B n : Nat} {b o : Nat} {xs : List Int} (h : RInts w B (some ⟨b, o, none⟩) n xs) : ∀ j, j < xs.length → w.cell? ⟨b, o + j, none⟩ = some (.int .i64 (xs.getD j 0)) := by
  intro j hj
  have hl := h.len
  obtain ⟨ad, x, e, _, hc, hx⟩ := h.at_ (show j < n by omega)
  obtain rfl : (⟨b, o, none⟩ : Addr) = ad := by simpa using e
  rw [List.getD_eq_getElem?_getD, hx.out, Option.getD_some, ← hc]
  congr 1
  unfold Addr.add
  split
  · subst_vars; rfl
  · rfl
theorem foldl_max_le {m : Int} (xs : List Int) : ∀ a, a ≤ m → (∀ x ∈ xs, x ≤ m) → xs.foldl max a ≤ m := by
  induction xs with
  | nil => intro a h _; exact h
  | cons x r ih =>
    intro a h hx
    rw [List.foldl_cons]
    exact ih _ (by have := hx x (by simp); omega) fun y hy => hx y (by simp [hy])
theorem le_foldl_min {m : Int} (xs : List Int) : ∀ a, m ≤ a → (∀ x ∈ xs, m ≤ x) → m ≤ xs.foldl min a := by
  induction xs with
  | nil => intro a h _; exact h
  | cons x r ih =>
    intro a h hx
    rw [List.foldl_cons]
    exact ih _ (by have := hx x (by simp); omega) fun y hy => hx y (by simp [hy])
theorem maxOf_le {xs : List Int} {m : Int} (h0 : 0 < xs.length) (h : ∀ x ∈ xs, x ≤ m) : Lib.maxOf xs ≤ m := by
  cases xs with
  | nil => simp at h0
  | cons x r => exact foldl_max_le _ _ (h x (by simp)) h
theorem minOf_ge {xs : List Int} {m : Int} (h0 : 0 < xs.length) (h : ∀ x ∈ xs, m ≤ x) : m ≤ Lib.minOf xs := by
  cases xs with
  | nil => simp at h0
  | cons x r => exact le_foldl_min _ _ (h x (by simp)) h
/-- the value of a store -/
def stC (A : Option Addr) (n c : Nat) (A2 : Option Addr) (n2 c2 : Nat) : Array Value := #[.slice A n c, .slice A2 n2 c2]
theorem zero_store (w : World) : (zeroValue 119).run Tryd.prog w = .ok (.agg (stC none 0 0 none 0 0)) w := by
  exact Tryd.zeroValue119 w
theorem info_store (A : Option Addr) (n c : Nat) (A2 : Option Addr) (n2 c2 : Nat) : (Tryd.prog.info? 119).map (·.size) = some (stC A n c A2 n2 c2).size := by
  show _ = some 2
  kernel_rfl
theorem stC_one (A : Option Addr) (n c : Nat) (A2 : Option Addr) (n2 c2 : Nat) : (stC A n c A2 n2 c2).all (·.oneCell') = true := by
  simp [stC, Value.oneCell']
set_option maxRecDepth 100000 in
set_option maxHeartbeats 2000000 in
theorem stocked_ok (A : Option Addr) (n c : Nat) (b2 o2 c2 : Nat) (ss ms : List Nat) (hS : Stk ss ms) (w : World) (B : Nat) (hB : B ≤ w.heap.size) (hr : RInts w B A n (natI ss)) (hr2 : RInts w B (some ⟨b2, o2, none⟩) n (natI ms)) : Calls Tryd.prog 79 #[.slice A n c, .slice (some ⟨b2, o2, none⟩) n c2] w fun e w' => e = .returned (.tuple #[.agg (stC A n c (some ⟨b2, o2, none⟩) n c2), .int .i64 0]) ∧ Below w.heap.size w w' := by
  have hl2 := hr2.len
  have hl1 : ss.length = n := by simpa [natI] using hr.len
  have h1 := hS.siz.one
  have h5 := hS.siz.five
  have hck := Lib.hid (fun w' (h : RInts w' B A n (natI ss)) => Check_ok A n c ss hS.siz w' B h)
  obtain ⟨mn, hmn⟩ : ∃ m, Lib.minOf ((natI ms).take n) = m := ⟨_, rfl⟩
  obtain ⟨mx, hmx⟩ : ∃ m, Lib.maxOf ((natI ms).take n) = m := ⟨_, rfl⟩
  have hmem : ∀ x ∈ natI ms, 0 ≤ x ∧ x ≤ 40 := fun x hx => by
    obtain ⟨y, hy, rfl⟩ := List.mem_map.1 hx
    have := hS.rng y hy
    omega
  have hmn0 : ¬ mn < 0 := by
    have := minOf_ge (xs := (natI ms).take n) (m := 0) (by rw [List.length_take]; omega) (fun x hx => (hmem x (List.mem_of_mem_take hx)).1)
    omega
  have hmx0 : ¬ (40 : Int) < mx := by
    have := maxOf_le (xs := (natI ms).take n) (m := 40) (by rw [List.length_take]; omega) (fun x hx => (hmem x (List.mem_of_mem_take hx)).2)
    omega
  have cmn := Lib.hid (fun w' (h : RInts w' B (some ⟨b2, o2, none⟩) n (natI ms)) => Tryd.slices_Min_int b2 o2 n c2 (natI ms) w' (by omega) (by omega) (by omega) (RInts.none_none h))
  have cmx := Lib.hid (fun w' (h : RInts w' B (some ⟨b2, o2, none⟩) n (natI ms)) => Tryd.slices_Max_int b2 o2 n c2 (natI ms) w' (by omega) (by omega) (by omega) (RInts.none_none h))
  rw [hmn] at cmn
  rw [hmx] at cmx
  clear hmn hmx hmem hS
  go_enter Tryd.func79, Tryd.ntmps79
  go_wp2_with (first
    | (with_reducible show wpList _ _ _ (⟨_, .alloc 119, _, _, _, _⟩ :: _) _ _
       refine wpList_alloc_blk rfl 119 rfl _ zero_store ?_
       intro w3 g hG hgr hge
       have hb3 := below_none (Below.refl w.heap.size w) hgr (Nat.le_refl _))
    | (go_at_call 86; (with_reducible refine (hck.out _ (hr.later hB hb3)).mono ?_); rintro e wz ⟨rfl, hwz⟩; replace hwz := hwz.symm; subst hwz)
    | (go_at_call 87; (with_reducible refine (cmn.out _ (hr2.later hB hb3)).mono ?_); rintro e wz ⟨rfl, hwz⟩; replace hwz := hwz.symm; subst hwz)
    | (go_at_call 88; (with_reducible refine (cmx.out _ (hr2.later hB hb3)).mono ?_); rintro e wz ⟨rfl, hwz⟩; replace hwz := hwz.symm; subst hwz)
    | (with_reducible show wpList _ _ _ (⟨_, .store 119 (.tmp 4) _, _, _, _, _⟩ :: _) _ _
       refine wpList_store_blk rfl 119 _ _ rfl g (stC A n c (some ⟨b2, o2, none⟩) n c2) rfl rfl 119 _ hG (info_store _ _ _ _ _ _) rfl (stC_one _ _ _ _ _ _) ?_
       intro w5 hG5 hgr5
       have hb5 := below_some hb3 hgr5 hb3.size hge))
  exact bodyPost_ret (results_cell_tmp rfl _ _ g 119 _ (0, 0) _ rfl hG5 Tryd.underlying119 rfl (info_store _ _ _ _ _ _)) rfl ⟨rfl, hb5⟩
end Pk
end Go.Proofs.YtkbfmogjhjdjmaaDoor
-- the text PkB
namespace Go.Proofs.YtkbfmogjhjdjmaaDoor
open Go.RowKit
namespace Pk
open Bu (natI natI_at)
set_option maxRecDepth 100000 in
set_option maxHeartbeats 2000000 in
theorem ordered_ok (A : Option Addr) (n c : Nat) (b2 o2 c2 : Nat) (ss ms : List Nat) (hS : Stk ss ms) (N : Nat) (hN : N ≤ 1000) (w : World) (B : Nat) (hB : B ≤ w.heap.size) (hr : RInts w B A n (natI ss)) (hr2 : RInts w B (some ⟨b2, o2, none⟩) n (natI ms)) : Calls Tryd.prog 69 #[.slice A n c, .slice (some ⟨b2, o2, none⟩) n c2, .int .i64 (N : Int)] w fun e w' => e = .returned (.tuple #[.agg (stC A n c (some ⟨b2, o2, none⟩) n c2), .int .i64 0]) ∧ Below w.heap.size w w' := by
  have hst := Lib.hid (fun w' (hB : B ≤ w'.heap.size) (h1 : RInts w' B A n (natI ss)) (h2 : RInts w' B (some ⟨b2, o2, none⟩) n (natI ms)) => stocked_ok A n c b2 o2 c2 ss ms hS w' B hB h1 h2)
  have hwi := Lib.hid (fun w' => within_any (N : Int) 0 1000 w')
  rw [decide_eq_true (by omega)] at hwi
  obtain ⟨T, hT⟩ : ∃ T, stC A n c (some ⟨b2, o2, none⟩) n c2 = T := ⟨_, rfl⟩
  have hT1 : T.all (·.oneCell') = true := by rw [← hT]; exact stC_one _ _ _ _ _ _
  have hT2 : (Tryd.prog.info? 119).map (·.size) = some T.size := by rw [← hT]; exact info_store _ _ _ _ _ _
  have hT3 : (stC none 0 0 none 0 0).size = T.size := by rw [← hT]; rfl
  have hTH := Lib.hid hT
  rw [hT] at hst ⊢
  clear hT
  go_enter Tryd.func69, Tryd.ntmps69
  go_wp2_with (first
    | (with_reducible show wpList _ _ _ (⟨some 6, .alloc 119, _, _, _, _⟩ :: _) _ _
       refine wpList_alloc_blk rfl 119 rfl _ zero_store ?_
       intro w3 g hG hgr hge
       have hb3 := below_none (Below.refl w.heap.size w) hgr (Nat.le_refl _))
    | (go_at_call 79; (with_reducible refine (hst.out _ (Nat.le_trans hB hb3.size) (hr.later hB hb3) (hr2.later hB hb3)).mono ?_); rintro e w4 ⟨rfl, hb4⟩
       have hG4 := hG.callee hb4
       replace hb4 := hb3.trans (hb4.mono hb3.size))
    | (with_reducible show wpList _ _ _ (⟨some 8, .alloc 119, _, _, _, _⟩ :: _) _ _
       refine wpList_alloc_blk rfl 119 rfl _ zero_store ?_
       intro w5 g8 hK hgr5 hge8
       have hb5 := below_none hb4 hgr5 hb4.size
       have hG5 := hG4.none_ hgr5
       have hgk : g8 ≠ g := by have := hG4.lt; omega)
    | (with_reducible show wpList _ _ _ (⟨_, .store 119 (.tmp 8) _, _, _, _, _⟩ :: _) _ _
       refine wpList_store_blk rfl 119 _ _ rfl g8 T rfl rfl 119 _ hK hT2 hT3 hT1 ?_
       intro w6 hK6 hgr6
       have hb6 := below_some hb5 hgr6 hb5.size (by have := hb4.size; omega)
       have hG6 := hG5.some_ hgr6 hgk.symm)
    | (go_at_call 80; (with_reducible refine (hwi.out _).mono ?_); rintro e wz ⟨rfl, hwz⟩; replace hwz := hwz.symm; subst hwz)
    | (with_reducible show wpList _ _ _ (⟨some 23, .load 119 (.tmp 8), _, _, _, _⟩ :: _) _ _
       refine wpList_load_blk rfl 119 _ rfl g8 rfl 119 T _ hK6 Tryd.underlying119 rfl hT2 ?_)
    | (with_reducible show wpList _ _ _ (⟨_, .store 119 (.tmp 6) _, _, _, _, _⟩ :: _) _ _
       refine wpList_store_blk rfl 119 _ _ rfl g T rfl rfl 119 _ hG6 hT2 hT3 hT1 ?_
       intro w7 hG7 hgr7
       have hb7 := below_some hb6 hgr7 hb6.size hge))
  exact bodyPost_ret (results_cell_tmp rfl _ _ g 119 _ (0, 0) _ rfl hG7 Tryd.underlying119 rfl hT2) rfl ⟨rfl, hb7⟩
end Pk
end Go.Proofs.YtkbfmogjhjdjmaaDoor
-- the text PkC
namespace Go.Proofs.YtkbfmogjhjdjmaaDoor
open Go.RowKit
namespace Pk
/-- the cells that the closure reads -/
structure CoC (w : World) (g6 g14 g10 g16 F N : Nat) (few : List Int) (r size j : Nat) : Prop where
  c6 : w.cell? ⟨g6, 0, none⟩ = some (.slice (some ⟨F, 0, none⟩) (N + 1) (N + 1))
  c14 : w.cell? ⟨g14, 0, none⟩ = some (.int .i64 (r : Int))
  c10 : w.cell? ⟨g10, 0, none⟩ = some (.int .i64 (size : Int))
  c16 : w.cell? ⟨g16, 0, none⟩ = some (.int .i64 (j : Int))
  cf : ∀ x, x ≤ N → w.cell? ⟨F, x, none⟩ = some (.int .i64 (few.getD x 0))
theorem CoC.drewN {w : World} {g6 g14 g10 g16 F N : Nat} {few : List Int} {r size j : Nat} (h : CoC w g6 g14 g10 g16 F N few r size j) (q : Nat) : CoC (w.drewN q) g6 g14 g10 g16 F N few r size j :=
  ⟨h.c6, h.c14, h.c10, h.c16, h.cf⟩
/-- the numbers of packets that a row keeps -/
def few_ok (N : Nat) (few : List Int) : Prop := few.length = N + 1 ∧ ∀ x ∈ few, 0 ≤ x ∧ x ≤ 1001
set_option maxRecDepth 100000 in
set_option maxHeartbeats 2000000 in
theorem cost_any (g6 g14 g10 g16 F N : Nat) (few : List Int) (r size j i x : Nat) (hN : N ≤ 1000) (hx : r + i * size = x) (hxN : x ≤ N) (hi : i ≤ 1000) (hj : j ≤ 1000) (z : Int) (hz : few.getD x 0 = z) (hz0 : 0 ≤ z) (hz1 : z ≤ 1001) (w : World) (h : CoC w g6 g14 g10 g16 F N few r size j) :
    Calls Tryd.prog 81 #[.int .i64 (i : Int), .pointer (some ⟨g6, 0, none⟩), .pointer (some ⟨g14, 0, none⟩), .pointer (some ⟨g10, 0, none⟩), .pointer (some ⟨g16, 0, none⟩)] w fun e w' => e = .returned (.int .i64 (z + j - i)) ∧ ∃ q, w' = w.drewN q := by
  obtain ⟨k6, k14, k10, k16, kf⟩ := h
  have kx := kf x hxN
  rw [hz] at kx
  obtain ⟨p, hp⟩ : ∃ p, i * size = p := ⟨_, rfl⟩
  have hpi : (i : Int) * size = p := by rw [← hp]; simp
  have hpx : (r : Int) + p = x := by rw [← hx, hp]; simp
  have hxi : (x : Int) < N + 1 := by omega
  clear hx kf hz
  go_enter Tryd.func81, Tryd.ntmps81
  go_wp2_with (fail)
  go_quiet (fail)
  go_wp2_with (fail)
  go_ret
  exact ⟨rfl, _, rfl⟩
end Pk
end Go.Proofs.YtkbfmogjhjdjmaaDoor
