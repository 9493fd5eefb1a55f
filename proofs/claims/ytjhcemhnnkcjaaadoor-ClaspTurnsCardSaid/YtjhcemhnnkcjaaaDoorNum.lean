/- The line of a clasp's positions: their numbers, and the rings that lead from one to the next. Plain lists: no program in sight. -/
import Derived.Test.YtjhcemhnnkcjaaaDoorPlain
import Derived.Lib.TrailingZeros
namespace Go.Proofs.YtjhcemhnnkcjaaaDoor

/-- how often 2 divides a number -/
def tz (n : Nat) : Nat := if n % 2 = 1 ∨ n = 0 then 0 else 1 + tz (n / 2)
  termination_by n
  decreasing_by omega
theorem tz_odd {n : Nat} (h : n % 2 = 1) : tz n = 0 := by rw [tz, if_pos (Or.inl h)]
theorem tz_two {m : Nat} (h : 0 < m) : tz (2 * m) = 1 + tz m := by
  rw [tz, if_neg (by omega), Nat.mul_div_cancel_left _ (by omega)]
theorem tz_even {n : Nat} (h0 : 0 < n) (h : n % 2 = 0) : tz n = 1 + tz (n / 2) := by
  rw [tz, if_neg (by omega)]
theorem tz_pow (k m : Nat) : tz (2 ^ k * (2 * m + 1)) = k := by
  induction k with
  | zero => rw [Nat.pow_zero, Nat.one_mul]; exact tz_odd (by omega)
  | succ k ih =>
    rw [Nat.pow_succ, Nat.mul_comm (2 ^ k) 2, Nat.mul_assoc, tz_two (Nat.mul_pos (Nat.pow_pos (by omega)) (by omega)), ih]
    omega
theorem tz_ctz {x : Nat} (h0 : 0 < x) (h : x < 2 ^ 64) : tz x = Lib.ctz 64 x := by
  obtain ⟨m, hm, _⟩ := Lib.ctzFrom_spec 64 x h0 h
  have : tz x = Lib.ctzFrom 64 x := by
    conv => lhs; rw [hm]
    exact tz_pow _ m
  rw [this, Lib.ctz, if_neg (by omega)]

/-- a list of noughts and ones -/
def bin (xs : List Int) : Prop := ∀ x ∈ xs, x = 0 ∨ x = 1
theorem bin_cons {x : Int} {xs : List Int} (h : bin (x :: xs)) : (x = 0 ∨ x = 1) ∧ bin xs := ⟨h x (by simp), fun y hy => h y (by simp [hy])⟩
theorem bin_of_all {xs : List Int} (h : xs.all okx = true) : bin xs := fun x hx => by
  have := (List.all_eq_true.1 h) x hx
  simpa [okx] using this
theorem all_of_bin {xs : List Int} (h : bin xs) : xs.all okx = true := List.all_eq_true.2 fun x hx => by
  have := h x hx
  simpa [okx] using this

/-- the number of a position -/
def numS : List Int → Nat
  | [] => 0
  | x :: xs => 2 * numS xs + (x.toNat + numS xs) % 2
theorem numS_lt (xs : List Int) : numS xs < 2 ^ xs.length := by
  induction xs with
  | nil => simp [numS]
  | cons x xs ih => simp only [numS, List.length_cons, Nat.pow_succ]; omega

/-- how far two numbers are apart -/
def distS (a b : Nat) : Nat := (a - b) + (b - a)
/-- the position after a ring was moved -/
def moveS (xs : List Int) (k : Nat) : List Int := xs.set k (1 - xs[k]?.getD 0)
theorem moveS_length (xs : List Int) (k : Nat) : (moveS xs k).length = xs.length := by simp [moveS]
theorem moveS_zero (x : Int) (xs : List Int) : moveS (x :: xs) 0 = (1 - x) :: xs := by simp [moveS]
theorem moveS_succ (x : Int) (xs : List Int) (k : Nat) : moveS (x :: xs) (k + 1) = x :: moveS xs k := by simp [moveS]
theorem moveS_bin {xs : List Int} (h : bin xs) (k : Nat) : bin (moveS xs k) := by
  induction xs generalizing k with
  | nil => intro x hx; simp [moveS] at hx
  | cons y ys ih =>
    obtain ⟨h0, h1⟩ := bin_cons h
    cases k with
    | zero => rw [moveS_zero]; intro x hx; rcases List.mem_cons.1 hx with rfl | hx
              · omega
              · exact h1 x hx
    | succ k => rw [moveS_succ]; intro x hx; rcases List.mem_cons.1 hx with rfl | hx
                · exact h0
                · exact ih h1 k x hx

/-- whether a ring can be moved: the one right ahead is on, all others ahead are off -/
def canS : List Int → Nat → Bool
  | _, 0 => true
  | [], _ + 1 => false
  | x :: _, 1 => x == 1
  | x :: xs, k + 2 => x != 1 && canS xs (k + 1)

theorem canS_first (xs : List Int) (k : Nat) : canS xs (k + 1) = true ↔ (∀ j, j < k → xs[j]? ≠ some 1) ∧ xs[k]? = some 1 := by
  induction xs generalizing k with
  | nil => simp [canS]
  | cons x xs ih =>
    cases k with
    | zero => simp [canS]
    | succ k =>
      simp only [canS, Bool.and_eq_true, ih k, bne_iff_ne, List.getElem?_cons_succ]
      constructor
      · rintro ⟨h0, h1, h2⟩
        refine ⟨fun j hj => ?_, h2⟩
        cases j with
        | zero => simpa using h0
        | succ j => simpa using h1 j (by omega)
      · rintro ⟨h1, h2⟩
        refine ⟨by simpa using h1 0 (by omega), fun j hj => by simpa using h1 (j + 1) (by omega), h2⟩
/-- where the first ring that is on stands, there the next one can be moved, and no other one but the first -/
theorem canS_of_first {xs : List Int} {f k : Nat} (h1 : ∀ j, j < f → xs[j]? ≠ some 1) (h2 : xs[f]? = some 1 ∨ xs.length ≤ f) (hk : k + 1 < xs.length) : canS xs (k + 1) = decide (k = f) := by
  rw [Bool.eq_iff_iff, canS_first]
  simp only [decide_eq_true_eq]
  constructor
  · rintro ⟨h3, h4⟩
    rcases Nat.lt_trichotomy k f with h | h | h
    · exact absurd h4 (h1 k h)
    · exact h
    · rcases h2 with h2 | h2
      · exact absurd h2 (h3 f h)
      · omega
  · rintro rfl
    refine ⟨h1, ?_⟩
    rcases h2 with h2 | h2
    · exact h2
    · omega

/-- a ring that can be moved leads to the next number, or to the one before; and it is the ring that the number tells -/
theorem line_step (xs : List Int) (hb : bin xs) (k : Nat) (hk : k < xs.length) (hc : canS xs k = true) :
    (numS (moveS xs k) = numS xs + 1 ∧ k = tz (numS xs + 1)) ∨ (numS (moveS xs k) + 1 = numS xs ∧ k = tz (numS xs)) := by
  induction xs generalizing k with
  | nil => simp at hk
  | cons x xs ih =>
    obtain ⟨hx, hb'⟩ := bin_cons hb
    match k with
    | 0 =>
      rw [moveS_zero]
      simp only [numS]
      rcases hx with rfl | rfl
      · rcases Nat.mod_two_eq_zero_or_one (numS xs) with e | e
        · left; refine ⟨by simp; omega, ?_⟩; rw [tz_odd]; simp; omega
        · right; refine ⟨by simp; omega, ?_⟩; rw [tz_odd]; simp; omega
      · rcases Nat.mod_two_eq_zero_or_one (numS xs) with e | e
        · right; refine ⟨by simp; omega, ?_⟩; rw [tz_odd]; simp; omega
        · left; refine ⟨by simp; omega, ?_⟩; rw [tz_odd]; simp; omega
    | 1 =>
      have hx1 : x = 1 := by simpa [canS] using hc
      subst hx1
      rw [moveS_succ]
      simp only [List.length_cons] at hk
      simp only [numS]
      rcases ih hb' 0 (by omega) (by cases xs <;> rfl) with ⟨h1, h2⟩ | ⟨h1, h2⟩
      · left
        have hodd : (numS xs + 1) % 2 = 1 := by
          rcases Nat.mod_two_eq_zero_or_one (numS xs + 1) with e | e
          · rw [tz_even (by omega) e] at h2; omega
          · exact e
        refine ⟨by simp; omega, ?_⟩
        rw [show 2 * numS xs + (Int.toNat 1 + numS xs) % 2 + 1 = 2 * (numS xs + 1) by simp; omega, tz_two (by omega), ← h2]
      · right
        have hodd : numS xs % 2 = 1 := by
          rcases Nat.mod_two_eq_zero_or_one (numS xs) with e | e
          · rw [tz_even (by omega) e] at h2; omega
          · exact e
        refine ⟨by simp; omega, ?_⟩
        rw [show 2 * numS xs + (Int.toNat 1 + numS xs) % 2 = 2 * numS xs by simp; omega, tz_two (by omega), ← h2]
    | j + 2 =>
      have hc' : x ≠ 1 ∧ canS xs (j + 1) = true := by simpa [canS] using hc
      have hx0 : x = 0 := by rcases hx with h | h
                             · exact h
                             · exact absurd h hc'.1
      subst hx0
      rw [moveS_succ]
      simp only [List.length_cons] at hk
      simp only [numS]
      rcases ih hb' (j + 1) (by omega) hc'.2 with ⟨h1, h2⟩ | ⟨h1, h2⟩
      · left
        have hev : (numS xs + 1) % 2 = 0 := by
          rcases Nat.mod_two_eq_zero_or_one (numS xs + 1) with e | e
          · exact e
          · rw [tz_odd e] at h2; omega
        refine ⟨by simp; omega, ?_⟩
        rw [show 2 * numS xs + (Int.toNat 0 + numS xs) % 2 + 1 = 2 * (numS xs + 1) by simp; omega, tz_two (by omega), ← h2]; omega
      · right
        have hev : numS xs % 2 = 0 := by
          rcases Nat.mod_two_eq_zero_or_one (numS xs) with e | e
          · exact e
          · rw [tz_odd e] at h2; omega
        refine ⟨by simp; omega, ?_⟩
        rw [show 2 * numS xs + (Int.toNat 0 + numS xs) % 2 = 2 * numS xs by simp; omega, tz_two (by omega), ← h2]; omega

/-- the ring that leads up -/
theorem line_up (xs : List Int) (hb : bin xs) (h : numS xs + 1 < 2 ^ xs.length) :
    canS xs (tz (numS xs + 1)) = true ∧ tz (numS xs + 1) < xs.length ∧ numS (moveS xs (tz (numS xs + 1))) = numS xs + 1 := by
  induction xs with
  | nil => simp [numS] at h
  | cons x xs ih =>
    obtain ⟨hx, hb'⟩ := bin_cons hb
    simp only [List.length_cons, Nat.pow_succ] at h ⊢
    by_cases hp : (x.toNat + numS xs) % 2 = 0
    · have e : tz (numS (x :: xs) + 1) = 0 := tz_odd (by simp only [numS]; omega)
      rw [e]
      refine ⟨by simp [canS], by omega, ?_⟩
      rw [moveS_zero]
      simp only [numS]
      rcases hx with rfl | rfl
      · simp at hp ⊢; omega
      · simp at hp ⊢; omega
    · have eN : numS (x :: xs) + 1 = 2 * (numS xs + 1) := by simp only [numS]; omega
      have hlt : numS xs + 1 < 2 ^ xs.length := by rw [eN] at h; omega
      obtain ⟨c1, c2, c3⟩ := ih hb' hlt
      rw [eN, tz_two (by omega), Nat.add_comm 1, moveS_succ]
      rcases hx with rfl | rfl
      · have hodd : numS xs % 2 = 1 := by simp at hp; omega
        have hpos : 0 < tz (numS xs + 1) := by rw [tz_even (by omega) (by omega)]; omega
        obtain ⟨j, hj⟩ : ∃ j, tz (numS xs + 1) = j + 1 := ⟨tz (numS xs + 1) - 1, by omega⟩
        refine ⟨?_, by omega, ?_⟩
        · rw [hj] at c1 ⊢; simp [canS, c1]
        · simp only [numS]; rw [c3]; simp; omega
      · have hev : numS xs % 2 = 0 := by simp at hp; omega
        have h0 : tz (numS xs + 1) = 0 := tz_odd (by omega)
        refine ⟨?_, by omega, ?_⟩
        · rw [h0]; simp [canS]
        · simp only [numS]; rw [c3]; simp; omega

/-- the ring that leads down -/
theorem line_down (xs : List Int) (hb : bin xs) (h : 0 < numS xs) :
    canS xs (tz (numS xs)) = true ∧ tz (numS xs) < xs.length ∧ numS (moveS xs (tz (numS xs))) + 1 = numS xs := by
  induction xs with
  | nil => simp [numS] at h
  | cons x xs ih =>
    obtain ⟨hx, hb'⟩ := bin_cons hb
    simp only [List.length_cons] at h ⊢
    by_cases hp : (x.toNat + numS xs) % 2 = 1
    · have e : tz (numS (x :: xs)) = 0 := tz_odd (by simp only [numS]; omega)
      rw [e]
      refine ⟨by simp [canS], by omega, ?_⟩
      rw [moveS_zero]
      simp only [numS]
      rcases hx with rfl | rfl
      · simp at hp ⊢; omega
      · simp at hp ⊢; omega
    · have eN : numS (x :: xs) = 2 * numS xs := by simp only [numS]; omega
      have hlt : 0 < numS xs := by rw [eN] at h; omega
      obtain ⟨c1, c2, c3⟩ := ih hb' hlt
      rw [eN, tz_two hlt, Nat.add_comm 1, moveS_succ]
      rcases hx with rfl | rfl
      · have hev : numS xs % 2 = 0 := by simp at hp; omega
        have hpos : 0 < tz (numS xs) := by rw [tz_even (by omega) (by omega)]; omega
        obtain ⟨j, hj⟩ : ∃ j, tz (numS xs) = j + 1 := ⟨tz (numS xs) - 1, by omega⟩
        refine ⟨?_, by omega, ?_⟩
        · rw [hj] at c1 ⊢; simp [canS, c1]
        · simp only [numS]; simp; omega
      · have hodd : numS xs % 2 = 1 := by simp at hp; omega
        have h0 : tz (numS xs) = 0 := tz_odd hodd
        refine ⟨?_, by omega, ?_⟩
        · rw [h0]; simp [canS]
        · simp only [numS]; simp; omega

/-- different positions have different numbers -/
theorem numS_inj : ∀ (xs ys : List Int), bin xs → bin ys → xs.length = ys.length → numS xs = numS ys → xs = ys
  | [], [], _, _, _, _ => rfl
  | [], _ :: _, _, _, h, _ => by simp at h
  | _ :: _, [], _, _, h, _ => by simp at h
  | x :: xs, y :: ys, hx, hy, hl, h => by
    obtain ⟨hx0, hx'⟩ := bin_cons hx
    obtain ⟨hy0, hy'⟩ := bin_cons hy
    simp only [numS] at h
    have h1 : numS xs = numS ys := by omega
    have h2 := numS_inj xs ys hx' hy' (by simpa using hl) h1
    subst h2
    have : x = y := by rcases hx0 with rfl | rfl <;> rcases hy0 with rfl | rfl <;> simp at h ⊢ <;> omega
    rw [this]

/-- the position of so many rings with a number -/
def grayS : Nat → Nat → List Int
  | 0, _ => []
  | r + 1, n => (((n + n / 2) % 2 : Nat) : Int) :: grayS r (n / 2)
theorem grayS_length (r n : Nat) : (grayS r n).length = r := by
  induction r generalizing n with
  | zero => rfl
  | succ r ih => simp [grayS, ih]
theorem grayS_bin (r n : Nat) : bin (grayS r n) := by
  induction r generalizing n with
  | zero => intro x hx; simp [grayS] at hx
  | succ r ih =>
    intro x hx
    rcases List.mem_cons.1 hx with rfl | hx
    · omega
    · exact ih _ x hx
theorem numS_grayS (r n : Nat) (h : n < 2 ^ r) : numS (grayS r n) = n := by
  induction r generalizing n with
  | zero => simp at h; simp [grayS, numS, h]
  | succ r ih =>
    rw [Nat.pow_succ] at h
    simp only [grayS, numS]
    rw [ih (n / 2) (by omega)]
    simp only [Int.toNat_natCast]
    omega
theorem grayS_numS (xs : List Int) (hb : bin xs) : grayS xs.length (numS xs) = xs :=
  numS_inj _ _ (grayS_bin _ _) hb (grayS_length _ _) (numS_grayS _ _ (numS_lt xs))
theorem grayS_at (r n k : Nat) (hk : k < r) : (grayS r n)[k]? = some (((n / 2 ^ k + n / 2 ^ (k + 1)) % 2 : Nat) : Int) := by
  induction r generalizing n k with
  | zero => omega
  | succ r ih =>
    cases k with
    | zero => simp [grayS]
    | succ k =>
      simp only [grayS, List.getElem?_cons_succ]
      rw [ih (n / 2) k (by omega), Nat.div_div_eq_div_mul, Nat.div_div_eq_div_mul, ← Nat.pow_succ', ← Nat.pow_succ']
end Go.Proofs.YtjhcemhnnkcjaaaDoor
