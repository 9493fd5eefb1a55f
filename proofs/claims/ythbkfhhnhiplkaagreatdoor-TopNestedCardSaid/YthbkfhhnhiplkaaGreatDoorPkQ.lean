/- Plain: the rows that fill fills, remainder by remainder; what they hold. -/
import Derived.Test.YthbkfhhnhiplkaaGreatDoorPkP
namespace Go.Proofs.YthbkfhhnhiplkaaGreatDoor
namespace Pk
/-- what is filled of the rows: all remainders below r, and j numbers of remainder r -/
def Dn (few : List Int) (s mo N r j : Nat) (XL YL : List Int) : Prop := XL.length = N + 1 ∧ YL.length = N + 1 ∧
  ∀ x, x ≤ N → (x % s < r ∨ (x % s = r ∧ x / s < j)) → XL[x]? = some (fewT few s mo x) ∧ YL[x]? = some (manyT few s mo x : Int)
theorem Dn.start (few : List Int) (s mo N : Nat) : Dn few s mo N 0 0 (List.replicate (N + 1) 0) (List.replicate (N + 1) 0) :=
  ⟨by simp, by simp, fun x _ h => by rcases h with h | ⟨_, h⟩ <;> exact absurd h (Nat.not_lt_zero _)⟩
theorem num_of {s r j : Nat} (hr : r < s) : (r + j * s) % s = r ∧ (r + j * s) / s = j := by
  rw [Nat.add_mul_mod_self_right, Nat.mod_eq_of_lt hr, Nat.add_mul_div_right _ _ (by omega), Nat.div_eq_of_lt hr]
  omega
theorem of_num {s x r j : Nat} (h1 : x % s = r) (h2 : x / s = j) : x = r + j * s := by
  have := Nat.mod_add_div x s
  rw [h1, h2, Nat.mul_comm] at this
  omega
theorem Dn.step {few : List Int} {s mo N r j : Nat} {XL YL : List Int} (h : Dn few s mo N r j XL YL) {x : Nat} (hx : r + j * s = x) (hxN : x ≤ N) :
    Dn few s mo N r (j + 1) (XL.set x (fewT few s mo x)) (YL.set x (manyT few s mo x : Int)) := by
  obtain ⟨h1, h2, h3⟩ := h
  refine ⟨by simpa using h1, by simpa using h2, fun y hy hc => ?_⟩
  by_cases he : x = y
  · subst he
    rw [List.getElem?_set_self (by omega), List.getElem?_set_self (by omega)]
    exact ⟨rfl, rfl⟩
  · rw [List.getElem?_set_ne he, List.getElem?_set_ne he]
    refine h3 y hy ?_
    rcases hc with hc | ⟨h4, h5⟩
    · exact Or.inl hc
    · by_cases h6 : y / s = j
      · exact absurd (hx.symm.trans (of_num h4 h6).symm) he
      · exact Or.inr ⟨h4, by omega⟩
theorem Dn.next {few : List Int} {s mo N r j : Nat} {XL YL : List Int} (h : Dn few s mo N r j XL YL) (hj : N < r + j * s) : Dn few s mo N (r + 1) 0 XL YL := by
  obtain ⟨h1, h2, h3⟩ := h
  refine ⟨h1, h2, fun y hy hc => h3 y hy ?_⟩
  by_cases h4 : y % s = r
  · refine Or.inr ⟨h4, ?_⟩
    have e := of_num h4 (rfl : y / s = y / s)
    rcases Nat.lt_or_ge (y / s) j with h5 | h5
    · exact h5
    · have := Nat.mul_le_mul_right s h5
      omega
  · rcases hc with hc | ⟨_, hc⟩
    · exact Or.inl (by generalize y % s = q at *; omega)
    · exact absurd hc (Nat.not_lt_zero _)
theorem Dn.whole {few : List Int} {s mo N r : Nat} {XL YL : List Int} (h : Dn few s mo N r 0 XL YL) (hs : 1 ≤ s) (hr : min s (N + 1) ≤ r) : XL = stepF few s mo N ∧ YL = stepB few s mo N := by
  obtain ⟨h1, h2, h3⟩ := h
  have hk : ∀ x, x ≤ N → x % s < r := fun x hx => by
    have a := Nat.mod_lt x hs
    have b := Nat.mod_le x s
    generalize x % s = q at *
    omega
  refine ⟨List.ext_getElem? fun x => ?_, List.ext_getElem? fun x => ?_⟩
  · by_cases hx : x ≤ N
    · rw [stepF_at hx, (h3 x hx (Or.inl (hk x hx))).1]
    · rw [List.getElem?_eq_none (by omega), List.getElem?_eq_none (by simp [stepF]; omega)]
  · by_cases hx : x ≤ N
    · rw [stepB_at hx, (h3 x hx (Or.inl (hk x hx))).2]
    · rw [List.getElem?_eq_none (by omega), List.getElem?_eq_none (by simp [stepB]; omega)]
/-- what the rows of the fewest hold -/
theorem few_len (N : Nat) (l : List (Nat × Nat)) : (fewL N l).length = N + 1 := by
  cases l with
  | nil => simp [fewL]
  | cons p l => obtain ⟨s, m⟩ := p; simp [fewL, stepF]
theorem few_rng (N : Nat) (l : List (Nat × Nat)) : ∀ x, 0 ≤ (fewL N l).getD x 0 ∧ (fewL N l).getD x 0 ≤ 1001 := by
  induction l with
  | nil =>
    intro x
    rw [fewL, List.getD_eq_getElem?_getD]
    cases x with
    | zero => simp
    | succ x =>
      rw [List.getElem?_cons_succ, List.getElem?_replicate]
      split <;> simp
  | cons p l ih =>
    obtain ⟨s, m⟩ := p
    intro x
    rw [fewL, List.getD_eq_getElem?_getD]
    by_cases hx : x ≤ N
    · rw [stepF_at hx, Option.getD_some, fewT]
      have := ih (x - manyT (fewL N l) s m x * s)
      unfold costT
      omega
    · rw [List.getElem?_eq_none (by simp [stepF]; omega)]
      simp
theorem many_le (few : List Int) (s m x : Nat) : manyT few s m x ≤ m ∧ manyT few s m x * s ≤ x := by
  have h := bestT_le (costT few s x) (min m (x / s))
  unfold manyT
  refine ⟨by omega, ?_⟩
  have h2 : bestT (costT few s x) (min m (x / s)) ≤ x / s := by omega
  exact Nat.le_trans (Nat.mul_le_mul_right s h2) (Nat.div_mul_le_self x s)
/-- the window: what it holds ahead of number j -/
def Wn (few : List Int) (s mo r j : Nat) (W : List Nat) : Prop := match j with
  | 0 => W = []
  | j + 1 => Win (fun i => few.getD (r + i * s) 0 - i) (j - mo) j W
/-- while numbers at its end go -/
def Wp (few : List Int) (s mo r j : Nat) (W : List Nat) : Prop := match j with
  | 0 => W = []
  | j + 1 => W.Pairwise (fun a b => a < b ∧ few.getD (r + a * s) 0 - a < few.getD (r + b * s) 0 - b) ∧ (∀ x ∈ W, j - mo ≤ x ∧ x ≤ j) ∧
    ∀ i, j - mo ≤ i → i ≤ j → (∃ a' ∈ W, i ≤ a' ∧ few.getD (r + a' * s) 0 - a' ≤ few.getD (r + i * s) 0 - i) ∨ few.getD (r + (j + 1) * s) 0 - ((j + 1 : Nat) : Int) ≤ few.getD (r + i * s) 0 - i
theorem Wn.begin {few : List Int} {s mo r j : Nat} {W : List Nat} (h : Wn few s mo r j W) : Wp few s mo r j W := by
  cases j with
  | zero => exact h
  | succ j => exact ⟨h.asc, h.rng, fun i h1 h2 => Or.inl (h.dom i h1 h2)⟩
theorem Wp.pop {few : List Int} {s mo r j a : Nat} {W : List Nat} (h : Wp few s mo r j (W ++ [a])) (hc : few.getD (r + j * s) 0 - (j : Int) ≤ few.getD (r + a * s) 0 - (a : Int)) : Wp few s mo r j W := by
  cases j with
  | zero => exact absurd (show W ++ [a] = [] from h) (by simp)
  | succ j => exact Win.pop (c := fun i => few.getD (r + i * s) 0 - i) hc h
theorem Wp.lt {few : List Int} {s mo r j : Nat} {W : List Nat} (h : Wp few s mo r j W) : ∀ a ∈ W, a < j := by
  cases j with
  | zero => intro a ha; rw [show W = [] from h] at ha; cases ha
  | succ j => intro a ha; have := (h.2.1 a ha).2; omega
/-- the last one stays: so all stay -/
theorem Wp.stay {few : List Int} {s mo r j : Nat} {W : List Nat} (h : Wp few s mo r j W) (hl : W = [] ∨ ∃ V a, W = V ++ [a] ∧ few.getD (r + a * s) 0 - (a : Int) < few.getD (r + j * s) 0 - (j : Int)) :
    Win (fun i => few.getD (r + i * s) 0 - i) (j - 1 - mo) j (W ++ [j]) := by
  cases j with
  | zero =>
    rw [show W = [] from h]
    have := Win.one fun i => few.getD (r + i * s) 0 - (i : Int)
    rwa [show 0 - 1 - mo = 0 by omega]
  | succ j =>
    rw [Nat.add_sub_cancel]
    refine Win.push (c := fun i => few.getD (r + i * s) 0 - i) (fun a ha => ?_) (by omega) h
    rcases hl with rfl | ⟨V, b, rfl, hb⟩
    · cases ha
    · rcases List.mem_append.1 ha with ha | ha
      · have h1 := h.1
        rw [List.pairwise_append] at h1
        have := (h1.2.2 a ha b (by simp)).2
        show few.getD (r + a * s) 0 - (a : Int) < few.getD (r + (j + 1) * s) 0 - ((j + 1 : Nat) : Int)
        omega
      · have e : a = b := by simpa using ha
        rw [e]; exact hb
/-- the window slides -/
theorem win_slide {few : List Int} {s mo r j a : Nat} {W : List Nat} (h : Win (fun i => few.getD (r + i * s) 0 - i) (j - 1 - mo) j (a :: W)) (ha : (a : Int) < j - mo) : Win (fun i => few.getD (r + i * s) 0 - i) (j - mo) j W := by
  have h1 := (h.rng a (by simp)).1
  have h2 := h.slide (show a < (j - 1 - mo) + 1 by omega)
  rwa [show j - 1 - mo + 1 = j - mo by omega] at h2
theorem win_keep {few : List Int} {s mo r j a : Nat} {W : List Nat} (h : Win (fun i => few.getD (r + i * s) 0 - i) (j - 1 - mo) j (a :: W)) (ha : ¬ (a : Int) < j - mo) : Win (fun i => few.getD (r + i * s) 0 - i) (j - mo) j (a :: W) := by
  by_cases hz : j ≤ mo
  · rwa [show j - 1 - mo = j - mo by omega] at h
  · have h2 := h.keep (show (j - 1 - mo) + 1 ≤ a by omega)
    rwa [show j - 1 - mo + 1 = j - mo by omega] at h2
end Pk
end Go.Proofs.YthbkfhhnhiplkaaGreatDoor
