/- The texts ClPlain, ClNum, ClGray, ClLaid, ClNumber, ClRestAt, ClWalked, ClRing, ClList, ClNumbered, ClApi1, ClStep, ClApi2, ClDoes, ClMoved, ClMoves, ClNext, ClWay in one. -/
import Derived.Test.YtkbfmogjhjdjmaaDoorKit
import Derived.Lib.TrailingZeros
import Derived.Test.YtkbfmogjhjdjmaaDoorBits
import Derived.Test.YtkbfmogjhjdjmaaDoorProg
import Derived.Deep.MidRow
import Derived.Deep.RegionHeld3
import Derived.Shelf.Spec.TrailingZeros
import Derived.Deep.OwnRows
import Derived.Test.YtkbfmogjhjdjmaaDoorPush
import Derived.Deep.LoopGhost
/- What the clasps compute, as plain functions on lists: no program in sight. -/
namespace Go.Proofs.YtkbfmogjhjdjmaaDoor.Cl

def okx (x : Int) : Bool := x == 0 || x == 1
/-- the error of a position -/
def chk (xs : List Int) : Int := if xs.length = 0 then 4 else if 16 < xs.length then 3 else if xs.all okx then 0 else 1
theorem chk_empty {xs : List Int} (h : xs.length = 0) : chk xs = 4 := by simp [chk, h]
theorem chk_many {xs : List Int} (h : 16 < xs.length) : chk xs = 3 := by rw [chk, if_neg (by omega), if_pos h]
theorem chk_bad {xs : List Int} {k : Nat} {x : Int} (h0 : xs.length ≠ 0) (h1 : ¬ 16 < xs.length) (hx : xs[k]? = some x) (ho : okx x = false) : chk xs = 1 := by
  rw [chk, if_neg h0, if_neg h1, if_neg]
  intro h
  rw [List.all_eq_true] at h
  rw [h x (List.mem_of_getElem? hx)] at ho
  cases ho
theorem chk_ok {xs : List Int} (h0 : xs.length ≠ 0) (h1 : ¬ 16 < xs.length) (h : xs.all okx = true) : chk xs = 0 := by
  rw [chk, if_neg h0, if_neg h1, if_pos h]
theorem all_step {xs : List Int} {k : Nat} {x : Int} (h : (xs.take k).all okx = true) (hx : xs[k]? = some x) (ho : okx x = true) : (xs.take (k + 1)).all okx = true := by
  rw [List.take_add_one, hx]; simp [List.all_append, h, ho]
theorem all_end {xs : List Int} {k : Nat} (h : (xs.take k).all okx = true) (hk : xs.length ≤ k) : xs.all okx = true := by
  rwa [List.take_of_length_le hk] at h

theorem chk_zero {xs : List Int} (h : chk xs = 0) : xs.length ≠ 0 ∧ xs.length ≤ 16 ∧ xs.all okx = true := by
  unfold chk at h
  by_cases h0 : xs.length = 0
  · simp [h0] at h
  by_cases h1 : 16 < xs.length
  · simp [h0, h1] at h
  by_cases h2 : xs.all okx = true
  · exact ⟨h0, by omega, h2⟩
  · simp [h0, h1, h2] at h
theorem okx_of_chk {xs : List Int} {k : Nat} {x : Int} (h : chk xs = 0) (hx : xs[k]? = some x) : okx x = true :=
  (List.all_eq_true.1 (chk_zero h).2.2) x (List.mem_of_getElem? hx)

/-! the cells of a rest: how many rings, and which ones are on -/
def restC (n : Nat) (b : List Bool) : Array Value := (Value.int .i64 (n : Int) :: b.map Value.bool).toArray
theorem restC_size (n : Nat) (b : List Bool) : (restC n b).size = b.length + 1 := by simp [restC]
theorem restC_zero (n : Nat) (b : List Bool) : (restC n b)[0]? = some (.int .i64 (n : Int)) := by simp [restC]
theorem restC_at (n : Nat) (b : List Bool) (k : Nat) : (restC n b)[1 + k]? = (b[k]?).map Value.bool := by
  rw [Nat.add_comm]; simp [restC]
theorem restC_set (n : Nat) (b : List Bool) (k : Nat) (x : Bool) : (restC n b).setIfInBounds (1 + k) (.bool x) = restC n (b.set k x) := by
  rw [Nat.add_comm]; simp [restC, List.map_set]
theorem restC_one (n : Nat) (b : List Bool) : (restC n b).all (·.oneCell') = true := by
  simp [restC, Value.oneCell']
/-- which of sixteen rings are on -/
def pad (xs : List Int) : List Bool := (List.range 16).map fun k => xs[k]? == some 1
theorem pad_length (xs : List Int) : (pad xs).length = 16 := by simp [pad]
theorem pad_nil : pad [] = List.replicate 16 false := by decide
theorem pad_step {xs : List Int} {k : Nat} {x : Int} (hk : k < 16) (hx : xs[k]? = some x) : (pad (xs.take k)).set k (x == 1) = pad (xs.take (k + 1)) := by
  apply List.ext_getElem?
  intro j
  rw [List.getElem?_set]
  simp only [pad, List.length_map, List.length_range, List.getElem?_map]
  by_cases hj : k = j
  · subst hj
    simp [hk, hx]
  · rw [if_neg hj]
    by_cases h16 : j < 16
    · simp only [List.getElem?_range h16, Option.map_some, List.getElem?_take]
      by_cases h : j < k
      · simp [h, show j < k + 1 by omega]
      · simp [h, show ¬ j < k + 1 by omega]
    · simp [h16]
theorem pad_end {xs : List Int} {k : Nat} (hk : xs.length ≤ k) : pad (xs.take k) = pad xs := by rw [List.take_of_length_le hk]
end Go.Proofs.YtkbfmogjhjdjmaaDoor.Cl
/- The line of a clasp's positions: their numbers, and the rings that lead from one to the next. Plain lists: no program in sight. -/
namespace Go.Proofs.YtkbfmogjhjdjmaaDoor.Cl

/-- how often 2 divides a number -/
def tz (n : Nat) : Nat := if n % 2 = 1 ∨ n = 0 then 0 else 1 + tz (n / 2)
  termination_by n
  decreasing_by omega
theorem tz_odd {n : Nat} (h : n % 2 = 1) : tz n = 0 := by rw [tz, if_pos (Or.inl h)]
theorem tz_two {m : Nat} (h : 0 < m) : tz (2 * m) = 1 + tz m := by
  rw [tz, if_neg (by omega), Nat.mul_div_cancel_left _ (by omega)]
theorem tz_even {n : Nat} (h0 : 0 < n) (h : n % 2 = 0) : tz n = 1 + tz (n / 2) := by
  rw [tz, if_neg (by omega)]
theorem tz_pow (k m : Nat) : tz (2 ^ k * (2 * m + 1)) = k := by
  induction k with
  | zero => rw [Nat.pow_zero, Nat.one_mul]; exact tz_odd (by omega)
  | succ k ih =>
    rw [Nat.pow_succ, Nat.mul_comm (2 ^ k) 2, Nat.mul_assoc, tz_two (Nat.mul_pos (Nat.pow_pos (by omega)) (by omega)), ih]
    omega
theorem tz_ctz {x : Nat} (h0 : 0 < x) (h : x < 2 ^ 64) : tz x = Lib.ctz 64 x := by
  obtain ⟨m, hm, _⟩ := Lib.ctzFrom_spec 64 x h0 h
  have : tz x = Lib.ctzFrom 64 x := by
    conv => lhs; rw [hm]
    exact tz_pow _ m
  rw [this, Lib.ctz, if_neg (by omega)]

/-- a list of noughts and ones -/
def bin (xs : List Int) : Prop := ∀ x ∈ xs, x = 0 ∨ x = 1
theorem bin_cons {x : Int} {xs : List Int} (h : bin (x :: xs)) : (x = 0 ∨ x = 1) ∧ bin xs := ⟨h x (by simp), fun y hy => h y (by simp [hy])⟩
theorem bin_of_all {xs : List Int} (h : xs.all okx = true) : bin xs := fun x hx => by
  have := (List.all_eq_true.1 h) x hx
  simpa [okx] using this
theorem all_of_bin {xs : List Int} (h : bin xs) : xs.all okx = true := List.all_eq_true.2 fun x hx => by
  have := h x hx
  simpa [okx] using this

/-- the number of a position -/
def numS : List Int → Nat
  | [] => 0
  | x :: xs => 2 * numS xs + (x.toNat + numS xs) % 2
theorem numS_lt (xs : List Int) : numS xs < 2 ^ xs.length := by
  induction xs with
  | nil => simp [numS]
  | cons x xs ih => simp only [numS, List.length_cons, Nat.pow_succ]; omega

/-- how far two numbers are apart -/
def distS (a b : Nat) : Nat := (a - b) + (b - a)
/-- the position after a ring was moved -/
def moveS (xs : List Int) (k : Nat) : List Int := xs.set k (1 - xs[k]?.getD 0)
theorem moveS_length (xs : List Int) (k : Nat) : (moveS xs k).length = xs.length := by simp [moveS]
theorem moveS_zero (x : Int) (xs : List Int) : moveS (x :: xs) 0 = (1 - x) :: xs := by simp [moveS]
theorem moveS_succ (x : Int) (xs : List Int) (k : Nat) : moveS (x :: xs) (k + 1) = x :: moveS xs k := by simp [moveS]
theorem moveS_bin {xs : List Int} (h : bin xs) (k : Nat) : bin (moveS xs k) := by
  induction xs generalizing k with
  | nil => intro x hx; simp [moveS] at hx
  | cons y ys ih =>
    obtain ⟨h0, h1⟩ := bin_cons h
    cases k with
    | zero => rw [moveS_zero]; intro x hx; rcases List.mem_cons.1 hx with rfl | hx
              · omega
              · exact h1 x hx
    | succ k => rw [moveS_succ]; intro x hx; rcases List.mem_cons.1 hx with rfl | hx
                · exact h0
                · exact ih h1 k x hx

/-- whether a ring can be moved: the one right ahead is on, all others ahead are off -/
def canS : List Int → Nat → Bool
  | _, 0 => true
  | [], _ + 1 => false
  | x :: _, 1 => x == 1
  | x :: xs, k + 2 => x != 1 && canS xs (k + 1)

theorem canS_first (xs : List Int) (k : Nat) : canS xs (k + 1) = true ↔ (∀ j, j < k → xs[j]? ≠ some 1) ∧ xs[k]? = some 1 := by
  induction xs generalizing k with
  | nil => simp [canS]
  | cons x xs ih =>
    cases k with
    | zero => simp [canS]
    | succ k =>
      simp only [canS, Bool.and_eq_true, ih k, bne_iff_ne, List.getElem?_cons_succ]
      constructor
      · rintro ⟨h0, h1, h2⟩
        refine ⟨fun j hj => ?_, h2⟩
        cases j with
        | zero => simpa using h0
        | succ j => simpa using h1 j (by omega)
      · rintro ⟨h1, h2⟩
        refine ⟨by simpa using h1 0 (by omega), fun j hj => by simpa using h1 (j + 1) (by omega), h2⟩
/-- where the first ring that is on stands, there the next one can be moved, and no other one but the first -/
theorem canS_of_first {xs : List Int} {f k : Nat} (h1 : ∀ j, j < f → xs[j]? ≠ some 1) (h2 : xs[f]? = some 1 ∨ xs.length ≤ f) (hk : k + 1 < xs.length) : canS xs (k + 1) = decide (k = f) := by
  rw [Bool.eq_iff_iff, canS_first]
  simp only [decide_eq_true_eq]
  constructor
  · rintro ⟨h3, h4⟩
    rcases Nat.lt_trichotomy k f with h | h | h
    · exact absurd h4 (h1 k h)
    · exact h
    · rcases h2 with h2 | h2
      · exact absurd h2 (h3 f h)
      · omega
  · rintro rfl
    refine ⟨h1, ?_⟩
    rcases h2 with h2 | h2
    · exact h2
    · omega

/-- a ring that can be moved leads to the next number, or to the one before; and it is the ring that the number tells -/
theorem line_step (xs : List Int) (hb : bin xs) (k : Nat) (hk : k < xs.length) (hc : canS xs k = true) :
    (numS (moveS xs k) = numS xs + 1 ∧ k = tz (numS xs + 1)) ∨ (numS (moveS xs k) + 1 = numS xs ∧ k = tz (numS xs)) := by
  induction xs generalizing k with
  | nil => simp at hk
  | cons x xs ih =>
    obtain ⟨hx, hb'⟩ := bin_cons hb
    match k with
    | 0 =>
      rw [moveS_zero]
      simp only [numS]
      rcases hx with rfl | rfl
      · rcases Nat.mod_two_eq_zero_or_one (numS xs) with e | e
        · left; refine ⟨by simp; omega, ?_⟩; rw [tz_odd]; simp; omega
        · right; refine ⟨by simp; omega, ?_⟩; rw [tz_odd]; simp; omega
      · rcases Nat.mod_two_eq_zero_or_one (numS xs) with e | e
        · right; refine ⟨by simp; omega, ?_⟩; rw [tz_odd]; simp; omega
        · left; refine ⟨by simp; omega, ?_⟩; rw [tz_odd]; simp; omega
    | 1 =>
      have hx1 : x = 1 := by simpa [canS] using hc
      subst hx1
      rw [moveS_succ]
      simp only [List.length_cons] at hk
      simp only [numS]
      rcases ih hb' 0 (by omega) (by cases xs <;> rfl) with ⟨h1, h2⟩ | ⟨h1, h2⟩
      · left
        have hodd : (numS xs + 1) % 2 = 1 := by
          rcases Nat.mod_two_eq_zero_or_one (numS xs + 1) with e | e
          · rw [tz_even (by omega) e] at h2; omega
          · exact e
        refine ⟨by simp; omega, ?_⟩
        rw [show 2 * numS xs + (Int.toNat 1 + numS xs) % 2 + 1 = 2 * (numS xs + 1) by simp; omega, tz_two (by omega), ← h2]
      · right
        have hodd : numS xs % 2 = 1 := by
          rcases Nat.mod_two_eq_zero_or_one (numS xs) with e | e
          · rw [tz_even (by omega) e] at h2; omega
          · exact e
        refine ⟨by simp; omega, ?_⟩
        rw [show 2 * numS xs + (Int.toNat 1 + numS xs) % 2 = 2 * numS xs by simp; omega, tz_two (by omega), ← h2]
    | j + 2 =>
      have hc' : x ≠ 1 ∧ canS xs (j + 1) = true := by simpa [canS] using hc
      have hx0 : x = 0 := by rcases hx with h | h
                             · exact h
                             · exact absurd h hc'.1
      subst hx0
      rw [moveS_succ]
      simp only [List.length_cons] at hk
      simp only [numS]
      rcases ih hb' (j + 1) (by omega) hc'.2 with ⟨h1, h2⟩ | ⟨h1, h2⟩
      · left
        have hev : (numS xs + 1) % 2 = 0 := by
          rcases Nat.mod_two_eq_zero_or_one (numS xs + 1) with e | e
          · exact e
          · rw [tz_odd e] at h2; omega
        refine ⟨by simp; omega, ?_⟩
        rw [show 2 * numS xs + (Int.toNat 0 + numS xs) % 2 + 1 = 2 * (numS xs + 1) by simp; omega, tz_two (by omega), ← h2]; omega
      · right
        have hev : numS xs % 2 = 0 := by
          rcases Nat.mod_two_eq_zero_or_one (numS xs) with e | e
          · exact e
          · rw [tz_odd e] at h2; omega
        refine ⟨by simp; omega, ?_⟩
        rw [show 2 * numS xs + (Int.toNat 0 + numS xs) % 2 = 2 * numS xs by simp; omega, tz_two (by omega), ← h2]; omega

/-- the ring that leads up -/
theorem line_up (xs : List Int) (hb : bin xs) (h : numS xs + 1 < 2 ^ xs.length) :
    canS xs (tz (numS xs + 1)) = true ∧ tz (numS xs + 1) < xs.length ∧ numS (moveS xs (tz (numS xs + 1))) = numS xs + 1 := by
  induction xs with
  | nil => simp [numS] at h
  | cons x xs ih =>
    obtain ⟨hx, hb'⟩ := bin_cons hb
    simp only [List.length_cons, Nat.pow_succ] at h ⊢
    by_cases hp : (x.toNat + numS xs) % 2 = 0
    · have e : tz (numS (x :: xs) + 1) = 0 := tz_odd (by simp only [numS]; omega)
      rw [e]
      refine ⟨by simp [canS], by omega, ?_⟩
      rw [moveS_zero]
      simp only [numS]
      rcases hx with rfl | rfl
      · simp at hp ⊢; omega
      · simp at hp ⊢; omega
    · have eN : numS (x :: xs) + 1 = 2 * (numS xs + 1) := by simp only [numS]; omega
      have hlt : numS xs + 1 < 2 ^ xs.length := by rw [eN] at h; omega
      obtain ⟨c1, c2, c3⟩ := ih hb' hlt
      rw [eN, tz_two (by omega), Nat.add_comm 1, moveS_succ]
      rcases hx with rfl | rfl
      · have hodd : numS xs % 2 = 1 := by simp at hp; omega
        have hpos : 0 < tz (numS xs + 1) := by rw [tz_even (by omega) (by omega)]; omega
        obtain ⟨j, hj⟩ : ∃ j, tz (numS xs + 1) = j + 1 := ⟨tz (numS xs + 1) - 1, by omega⟩
        refine ⟨?_, by omega, ?_⟩
        · rw [hj] at c1 ⊢; simp [canS, c1]
        · simp only [numS]; rw [c3]; simp; omega
      · have hev : numS xs % 2 = 0 := by simp at hp; omega
        have h0 : tz (numS xs + 1) = 0 := tz_odd (by omega)
        refine ⟨?_, by omega, ?_⟩
        · rw [h0]; simp [canS]
        · simp only [numS]; rw [c3]; simp; omega

/-- the ring that leads down -/
theorem line_down (xs : List Int) (hb : bin xs) (h : 0 < numS xs) :
    canS xs (tz (numS xs)) = true ∧ tz (numS xs) < xs.length ∧ numS (moveS xs (tz (numS xs))) + 1 = numS xs := by
  induction xs with
  | nil => simp [numS] at h
  | cons x xs ih =>
    obtain ⟨hx, hb'⟩ := bin_cons hb
    simp only [List.length_cons] at h ⊢
    by_cases hp : (x.toNat + numS xs) % 2 = 1
    · have e : tz (numS (x :: xs)) = 0 := tz_odd (by simp only [numS]; omega)
      rw [e]
      refine ⟨by simp [canS], by omega, ?_⟩
      rw [moveS_zero]
      simp only [numS]
      rcases hx with rfl | rfl
      · simp at hp ⊢; omega
      · simp at hp ⊢; omega
    · have eN : numS (x :: xs) = 2 * numS xs := by simp only [numS]; omega
      have hlt : 0 < numS xs := by rw [eN] at h; omega
      obtain ⟨c1, c2, c3⟩ := ih hb' hlt
      rw [eN, tz_two hlt, Nat.add_comm 1, moveS_succ]
      rcases hx with rfl | rfl
      · have hev : numS xs % 2 = 0 := by simp at hp; omega
        have hpos : 0 < tz (numS xs) := by rw [tz_even (by omega) (by omega)]; omega
        obtain ⟨j, hj⟩ : ∃ j, tz (numS xs) = j + 1 := ⟨tz (numS xs) - 1, by omega⟩
        refine ⟨?_, by omega, ?_⟩
        · rw [hj] at c1 ⊢; simp [canS, c1]
        · simp only [numS]; simp; omega
      · have hodd : numS xs % 2 = 1 := by simp at hp; omega
        have h0 : tz (numS xs) = 0 := tz_odd hodd
        refine ⟨?_, by omega, ?_⟩
        · rw [h0]; simp [canS]
        · simp only [numS]; simp; omega

/-- different positions have different numbers -/
theorem numS_inj : ∀ (xs ys : List Int), bin xs → bin ys → xs.length = ys.length → numS xs = numS ys → xs = ys
  | [], [], _, _, _, _ => rfl
  | [], _ :: _, _, _, h, _ => by simp at h
  | _ :: _, [], _, _, h, _ => by simp at h
  | x :: xs, y :: ys, hx, hy, hl, h => by
    obtain ⟨hx0, hx'⟩ := bin_cons hx
    obtain ⟨hy0, hy'⟩ := bin_cons hy
    simp only [numS] at h
    have h1 : numS xs = numS ys := by omega
    have h2 := numS_inj xs ys hx' hy' (by simpa using hl) h1
    subst h2
    have : x = y := by rcases hx0 with rfl | rfl <;> rcases hy0 with rfl | rfl <;> simp at h ⊢ <;> omega
    rw [this]

/-- the position of so many rings with a number -/
def grayS : Nat → Nat → List Int
  | 0, _ => []
  | r + 1, n => (((n + n / 2) % 2 : Nat) : Int) :: grayS r (n / 2)
theorem grayS_length (r n : Nat) : (grayS r n).length = r := by
  induction r generalizing n with
  | zero => rfl
  | succ r ih => simp [grayS, ih]
theorem grayS_bin (r n : Nat) : bin (grayS r n) := by
  induction r generalizing n with
  | zero => intro x hx; simp [grayS] at hx
  | succ r ih =>
    intro x hx
    rcases List.mem_cons.1 hx with rfl | hx
    · omega
    · exact ih _ x hx
theorem numS_grayS (r n : Nat) (h : n < 2 ^ r) : numS (grayS r n) = n := by
  induction r generalizing n with
  | zero => simp at h; simp [grayS, numS, h]
  | succ r ih =>
    rw [Nat.pow_succ] at h
    simp only [grayS, numS]
    rw [ih (n / 2) (by omega)]
    simp only [Int.toNat_natCast]
    omega
theorem grayS_numS (xs : List Int) (hb : bin xs) : grayS xs.length (numS xs) = xs :=
  numS_inj _ _ (grayS_bin _ _) hb (grayS_length _ _) (numS_grayS _ _ (numS_lt xs))
theorem grayS_at (r n k : Nat) (hk : k < r) : (grayS r n)[k]? = some (((n / 2 ^ k + n / 2 ^ (k + 1)) % 2 : Nat) : Int) := by
  induction r generalizing n k with
  | zero => omega
  | succ r ih =>
    cases k with
    | zero => simp [grayS]
    | succ k =>
      simp only [grayS, List.getElem?_cons_succ]
      rw [ih (n / 2) k (by omega), Nat.div_div_eq_div_mul, Nat.div_div_eq_div_mul, ← Nat.pow_succ', ← Nat.pow_succ']
end Go.Proofs.YtkbfmogjhjdjmaaDoor.Cl
/- The number of a position as the program reckons it: by exclusive or's. Plain numbers: no program in sight. -/
namespace Go.Proofs.YtkbfmogjhjdjmaaDoor.Cl

/-- the binary number of some rings -/
def binS : List Bool → Nat
  | [] => 0
  | b :: bs => (if b then 1 else 0) + 2 * binS bs
theorem binS_lt (b : List Bool) : binS b < 2 ^ b.length := by
  induction b with
  | nil => simp [binS]
  | cons x b ih => simp only [binS, List.length_cons, Nat.pow_succ]; split <;> omega
theorem binS_snoc (b : List Bool) (x : Bool) : binS (b ++ [x]) = binS b + (if x then 2 ^ b.length else 0) := by
  induction b with
  | nil => cases x <;> simp [binS]
  | cons y b ih =>
    simp only [List.cons_append, binS, ih, List.length_cons, Nat.pow_succ]
    cases x <;> simp <;> omega
theorem binS_or (b : List Bool) : binS b ||| 2 ^ b.length = binS b + 2 ^ b.length := by
  have h := Nat.two_pow_add_eq_or_of_lt (binS_lt b) 1
  rw [Nat.mul_one] at h
  rw [Nat.or_comm, ← h, Nat.add_comm]
theorem binS_bit (b : List Bool) (k : Nat) : (binS b).testBit k = b[k]?.getD false := by
  induction b generalizing k with
  | nil => simp [binS]
  | cons x b ih =>
    cases k with
    | zero => simp only [binS, Nat.testBit_zero, List.getElem?_cons_zero, Option.getD_some]; cases x <;> simp <;> omega
    | succ k =>
      rw [Nat.testBit_succ, show binS (x :: b) / 2 = binS b by simp only [binS]; split <;> omega, ih]
      simp

theorem or_step {b : List Bool} {k : Nat} (hk : k < 16) (hx : b[k]? = some true) : bits .or .i64 (binS (b.take k) : Nat) (RowKit.wrap64 (2 ^ k)) = ((binS (b.take (k + 1)) : Nat) : Int) := by
  have hl : (b.take k).length = k := by
    rw [List.length_take]
    have : k < b.length := (List.getElem?_eq_some_iff.1 hx).1
    omega
  have h1 := binS_lt (b.take k)
  rw [hl] at h1
  have h2 := pow_small (k := k) (by omega)
  rw [wrap64_pow (by omega), i64_or_nat _ _ (by omega) (by omega)]
  have h3 := binS_or (b.take k)
  rw [hl] at h3
  rw [h3, List.take_add_one, hx, Option.toList_some, binS_snoc, hl]
  simp
theorem no_step {b : List Bool} {k : Nat} (hx : b[k]? = some false) : binS (b.take (k + 1)) = binS (b.take k) := by
  rw [List.take_add_one, hx, Option.toList_some, binS_snoc]; simp

/-- the parity of so many bits -/
def px : Nat → (Nat → Bool) → Nat → Bool
  | 0, _, _ => false
  | k + 1, f, j => (f j ^^ px k f (j + 1))
theorem px_add (a b : Nat) (f : Nat → Bool) (j : Nat) : px (a + b) f j = (px a f j ^^ px b f (j + a)) := by
  induction a generalizing j with
  | zero => simp [px]
  | succ a ih => rw [Nat.succ_add, px, px, ih, Bool.xor_assoc, Nat.add_assoc, Nat.add_comm 1 a]
theorem px_shift (k : Nat) (f : Nat → Bool) (j : Nat) : px k f (j + 1) = px k (fun i => f (i + 1)) j := by
  induction k generalizing j with
  | zero => rfl
  | succ k ih => rw [px, px, ih]
theorem numS_bit (xs : List Int) (hb : bin xs) (f : Nat → Bool) (hf : ∀ k, f k = (xs[k]? == some 1)) (j m : Nat) (hm : xs.length ≤ j + m) : (numS xs).testBit j = px m f j := by
  induction xs generalizing f j m with
  | nil =>
    have h0 : ∀ k, f k = false := fun k => by rw [hf]; simp
    have : ∀ m j, px m f j = false := fun m => by
      induction m with
      | zero => intro j; rfl
      | succ m ih => intro j; rw [px, h0, ih]; rfl
    rw [this]; simp [numS]
  | cons x xs ih =>
    obtain ⟨hx, hb'⟩ := bin_cons hb
    have hf' : ∀ k, (fun i => f (i + 1)) k = (xs[k]? == some 1) := fun k => by show f (k + 1) = _; rw [hf]; simp
    cases j with
    | succ j =>
      rw [Nat.testBit_succ, show numS (x :: xs) / 2 = numS xs by simp only [numS]; omega, px_shift]
      exact ih hb' _ hf' j m (by simp at hm; omega)
    | zero =>
      cases m with
      | zero => simp at hm
      | succ m =>
        rw [px, px_shift, ← ih hb' _ hf' 0 m (by simp at hm; omega), hf 0]
        simp only [numS, Nat.testBit_zero, List.getElem?_cons_zero]
        rcases hx with rfl | rfl
        · rcases Nat.mod_two_eq_zero_or_one (numS xs) with e | e <;> simp [e] <;> omega
        · rcases Nat.mod_two_eq_zero_or_one (numS xs) with e | e <;> simp [e] <;> omega

/-- the number as the program reckons it, after so many rounds -/
def gx : Nat → Nat → Nat
  | 0, n => n
  | j + 1, n => gx j n ^^^ gx j n / 2 ^ 2 ^ j
theorem gx_bit (j n : Nat) (i : Nat) : (gx j n).testBit i = px (2 ^ j) n.testBit i := by
  induction j generalizing i with
  | zero => simp [gx, px]
  | succ j ih =>
    rw [gx, Nat.testBit_xor, Nat.testBit_div_two_pow, ih, ih, ← px_add]
    congr 1
    rw [Nat.pow_succ]; omega
theorem gx_lt (j n : Nat) (h : n < 65536) : gx j n < 65536 := by
  induction j with
  | zero => exact h
  | succ j ih =>
    rw [gx]
    exact Nat.xor_lt_two_pow (n := 16) ih (Nat.lt_of_le_of_lt (Nat.div_le_self _ _) ih)
theorem xor_step (j n : Nat) (h : n < 65536) : bits .xor .i64 (gx j n : Nat) ((gx j n : Nat) / ((2 ^ 2 ^ j : Nat) : Int)) = ((gx (j + 1) n : Nat) : Int) := by
  have h1 := gx_lt j n h
  have h2 : gx j n / 2 ^ 2 ^ j ≤ gx j n := Nat.div_le_self _ _
  rw [← Int.natCast_ediv, i64_xor_nat _ _ (by omega) (by omega), gx]
theorem numS_pad (xs : List Int) (hb : bin xs) (hl : xs.length ≤ 16) : gx 4 (binS (pad xs)) = numS xs := by
  apply Nat.eq_of_testBit_eq
  intro i
  rw [gx_bit, numS_bit xs hb _ (fun k => ?_) i (2 ^ 4) (by simp; omega)]
  rw [binS_bit]
  simp only [pad, List.getElem?_map]
  by_cases hk : k < 16
  · simp [List.getElem?_range hk]
  · have h1 : xs[k]? = none := List.getElem?_eq_none (by omega)
    have h2 : (List.range 16)[k]? = none := List.getElem?_eq_none (by simp; omega)
    simp [h1, h2]
/-- the binary digits of a position's number -/
theorem gray_bit (n k : Nat) : (n ^^^ n / 2) / 2 ^ k % 2 = (n / 2 ^ k + n / 2 ^ (k + 1)) % 2 := by
  have h := Nat.testBit_xor (x := n) (y := n / 2) (i := k)
  have h2 : (n / 2).testBit k = n.testBit (k + 1) := by rw [Nat.testBit_succ]
  rw [h2] at h
  simp only [Nat.testBit_eq_decide_div_mod_eq] at h
  rcases Nat.mod_two_eq_zero_or_one ((n ^^^ n / 2) / 2 ^ k) with e | e <;> rcases Nat.mod_two_eq_zero_or_one (n / 2 ^ k) with e1 | e1 <;> rcases Nat.mod_two_eq_zero_or_one (n / 2 ^ (k + 1)) with e2 | e2 <;> simp [e, e1, e2] at h <;> omega
/-- as the program asks for a digit -/
theorem gray_go {n k : Nat} (h : n < 65536) : (bits .and .i64 (bits .xor .i64 (n : Int) ((n : Int) / 2) / 2 ^ k) 1 == 1) = ((((n ^^^ n / 2) / 2 ^ k % 2 : Nat) : Int) == 1) := by
  have h1 : n / 2 < 65536 := by omega
  have h2 : n ^^^ n / 2 < 65536 := Nat.xor_lt_two_pow (n := 16) h h1
  have h3 : (n ^^^ n / 2) / 2 ^ k ≤ n ^^^ n / 2 := Nat.div_le_self _ _
  rw [show (n : Int) / 2 = ((n / 2 : Nat) : Int) by omega, i64_xor_nat _ _ (by omega) (by omega), show (2 : Int) ^ k = ((2 ^ k : Nat) : Int) by simp, ← Int.natCast_ediv]
  rw [show (1 : Int) = ((1 : Nat) : Int) by rfl, i64_and_nat _ _ (by omega) (by omega), Nat.and_one_is_mod]
end Go.Proofs.YtkbfmogjhjdjmaaDoor.Cl
/- The rest of a position, or its error. -/
namespace Go.Proofs.YtkbfmogjhjdjmaaDoor.Cl
open Go.RowKit
theorem info_rest : (Tryd.prog.info? 138).map (·.size) = some 17 := by kernel_rfl
theorem info_rest' (n : Nat) (xs : List Int) : (Tryd.prog.info? 138).map (·.size) = some (restC n (pad xs)).size := by rw [restC_size, pad_length]; exact info_rest
theorem restC_sizes (n m : Nat) (xs ys : List Int) : (restC n (pad xs)).size = (restC m (pad ys)).size := by simp only [restC_size, pad_length]
theorem restC_cell {xs : List Int} {n k : Nat} (hk : k < 16) : ∃ b, (restC n (pad xs))[1 + k]? = some (.bool b) := by
  rw [restC_at, List.getElem?_eq_getElem (by rw [pad_length]; exact hk)]; exact ⟨_, rfl⟩
set_option maxRecDepth 100000 in
set_option maxHeartbeats 1000000 in
theorem laid_bad (A : Option Addr) (n c : Nat) (xs : List Int) (w : World) (ha : RInts w w.heap.size A n xs) (hn : n ≤ maxLen) (hc : chk xs ≠ 0) :
    Calls Tryd.prog 82 #[.slice A n c] w fun e w' => e = .returned (.tuple #[.agg (restC 0 (pad [])), .int .i64 (chk xs)]) ∧ Below w.heap.size w w' := by
  unfold maxLen at hn
  have hxl := Lib.hid ha.len
  have hC := Lib.hid hc
  clear hc
  by_cases h0 : n = 0
  · subst h0
    have hP := Lib.hid (chk_empty hxl.out)
    go_enter Tryd.func82, Tryd.ntmps82
    go_wp2_with (first
      | (with_reducible show wpList _ _ _ (⟨_, .store 138 (.tmp 4) (.tmp 9), _, _, _, _⟩ :: _) _ _
         refine wpList_store_blk rfl 138 _ _ rfl (w.heap.size + 1) (restC 0 (pad [])) rfl rfl 138 (restC 0 (pad [])) (heap_alloc2_new _ _ _) (info_rest' 0 []) rfl (restC_one _ _) ?_
         intro W1 hB1 hg1
         have hB0 : Blk W1 w.heap.size 138 (restC 0 (pad [])) := Blk.grown (heap_alloc2_old _ _ _) hg1 (by simp)
         have hBe : Below w.heap.size w W1 := (((Below.refl _ _).alloc (Nat.le_refl _) _).alloc (by simp) _).grown hg1 (by simp; omega) (by simp)
         have hc0 : W1.cell? ⟨w.heap.size + 1, 0, none⟩ = some (.int .i64 (0 : Nat)) := by rw [hB1.cell, restC_zero]
         clear hg1)
      | (with_reducible show wpList _ _ _ (⟨_, .store 138 (.tmp 2) _, _, _, _, _⟩ :: _) _ _
         refine wpList_store_blk rfl 138 _ _ rfl w.heap.size (restC 0 (pad [])) rfl rfl 138 (restC 0 (pad [])) (by assumption) (info_rest' 0 []) rfl (restC_one _ _) ?_
         intro W2 hB2 hg2
         have hBe2 : Below w.heap.size w W2 := hBe.grown hg2 hBe.size (by simp)
         clear hg2))
    refine bodyPost_ret (results_cell_tmp rfl _ _ w.heap.size 138 (restC 0 (pad [])) (0, 0) _ rfl hB2 Tryd.underlying138 rfl (info_rest' 0 [])) rfl ⟨by rw [hP.out]; rfl, hBe2⟩
  have hb : ((n : Int) == 0) = false := by simp; omega
  by_cases h1 : 16 < n
  · have hP := Lib.hid (chk_many (by rw [hxl.out]; exact h1))
    go_enter Tryd.func82, Tryd.ntmps82
    go_wp2_with (first
      | (with_reducible show wpList _ _ _ (⟨_, .store 138 (.tmp 4) (.tmp 9), _, _, _, _⟩ :: _) _ _
         refine wpList_store_blk rfl 138 _ _ rfl (w.heap.size + 1) (restC n (pad [])) rfl rfl 138 (restC 0 (pad [])) (heap_alloc2_new _ _ _) (info_rest' n []) rfl (restC_one _ _) ?_
         intro W1 hB1 hg1
         have hB0 : Blk W1 w.heap.size 138 (restC 0 (pad [])) := Blk.grown (heap_alloc2_old _ _ _) hg1 (by simp)
         have hBe : Below w.heap.size w W1 := (((Below.refl _ _).alloc (Nat.le_refl _) _).alloc (by simp) _).grown hg1 (by simp; omega) (by simp)
         have hc0 : W1.cell? ⟨w.heap.size + 1, 0, none⟩ = some (.int .i64 (n : Nat)) := by rw [hB1.cell, restC_zero]
         clear hg1)
      | (with_reducible show wpList _ _ _ (⟨_, .store 138 (.tmp 2) _, _, _, _, _⟩ :: _) _ _
         refine wpList_store_blk rfl 138 _ _ rfl w.heap.size (restC 0 (pad [])) rfl rfl 138 (restC 0 (pad [])) (by assumption) (info_rest' 0 []) rfl (restC_one _ _) ?_
         intro W2 hB2 hg2
         have hBe2 : Below w.heap.size w W2 := hBe.grown hg2 hBe.size (by simp)
         clear hg2))
    refine bodyPost_ret (results_cell_tmp rfl _ _ w.heap.size 138 (restC 0 (pad [])) (0, 0) _ rfl hB2 Tryd.underlying138 rfl (info_rest' 0 [])) rfl ⟨by rw [hP.out]; rfl, hBe2⟩
  go_enter Tryd.func82, Tryd.ntmps82
  go_wp2_with (first
      | (with_reducible show wpList _ _ _ (⟨_, .store 138 (.tmp 4) (.tmp 9), _, _, _, _⟩ :: _) _ _
         refine wpList_store_blk rfl 138 _ _ rfl (w.heap.size + 1) (restC n (pad [])) rfl rfl 138 (restC 0 (pad [])) (heap_alloc2_new _ _ _) (info_rest' n []) rfl (restC_one _ _) ?_
         intro W1 hB1 hg1
         have hB0 : Blk W1 w.heap.size 138 (restC 0 (pad [])) := Blk.grown (heap_alloc2_old _ _ _) hg1 (by simp)
         have hBe : Below w.heap.size w W1 := (((Below.refl _ _).alloc (Nat.le_refl _) _).alloc (by simp) _).grown hg1 (by simp; omega) (by simp)
         have hc0 : W1.cell? ⟨w.heap.size + 1, 0, none⟩ = some (.int .i64 (n : Nat)) := by rw [hB1.cell, restC_zero]
         clear hg1))
  go_loopw [22] (fun i wr => ∃ k : Nat, k ≤ n ∧ i = .int .i64 k ∧ Hid ((xs.take k).all okx = true) ∧ Blk wr w.heap.size 138 (restC 0 (pad [])) ∧ Blk wr (w.heap.size + 1) 138 (restC n (pad (xs.take k))) ∧ Below w.heap.size w wr) (fun i _ => n - (intOf i).toNat)
  case atStart => exact ⟨0, by omega, rfl, rfl, hB0, hB1, hBe⟩
  case round =>
    clear hB0 hB1 hBe hc0
    obtain ⟨k, hk, rfl, hT, hB0, hB1, hBe⟩ := hrel
    by_cases hlt : k < n
    · obtain ⟨ad, x, rfl, _, hx1, hx⟩ := (ha.below hBe).at_ hlt
      obtain ⟨u, hu⟩ := restC_cell (xs := xs.take k) (n := n) (k := k) (by omega)
      have hcell : wr.cell? ⟨w.heap.size + 1, 1 + k, none⟩ = some (.bool u) := by rw [hB1.cell, hu]
      have hfz := hB1.frozen (1 + k)
      have hU := Lib.hid hu
      clear hu
      by_cases ho : okx x = true
      · have hS := Lib.hid (all_step hT.out hx.out ho)
        have hN : Blk (wr.setCell ⟨w.heap.size + 1, 1 + k, none⟩ (.bool (x == 1))) (w.heap.size + 1) 138 (restC n (pad (xs.take (k + 1)))) := by
          have := hB1.set_ (1 + k) (.bool (x == 1)); rwa [restC_set, pad_step (by omega) hx.out] at this
        have hN0 : Blk (wr.setCell ⟨w.heap.size + 1, 1 + k, none⟩ (.bool (x == 1))) w.heap.size 138 (restC 0 (pad [])) := hB0.far (by simp) _
        have hNe : Below w.heap.size w (wr.setCell ⟨w.heap.size + 1, 1 + k, none⟩ (.bool (x == 1))) := hBe.setCell (by simp) _
        by_cases e0 : x = 0
        · subst e0
          clear ho
          go_wp2_with (fail)
          go_roundw
          case rel => exact ⟨k + 1, by omega, by go_num, hS, hN0, hN, hNe⟩
          case measure => simp [intOf]; omega
        · obtain rfl : x = 1 := by simp [okx] at ho; omega
          clear ho
          go_wp2_with (fail)
          go_roundw
          case rel => exact ⟨k + 1, by omega, by go_num, hS, hN0, hN, hNe⟩
          case measure => simp [intOf]; omega
      · have hP := Lib.hid (chk_bad (by rw [hxl.out]; exact h0) (by rw [hxl.out]; exact h1) hx.out (by simpa using ho))
        have b0 : (x == 0) = false := by simp [okx] at ho; simp; omega
        have b1 : (x == 1) = false := by simp [okx] at ho; simp; omega
        clear ho
        go_wp2_with (first
      | (with_reducible show wpList _ _ _ (⟨_, .store 138 (.tmp 2) _, _, _, _, _⟩ :: _) _ _
         refine wpList_store_blk rfl 138 _ _ rfl w.heap.size (restC 0 (pad [])) rfl rfl 138 (restC 0 (pad [])) (by assumption) (info_rest' 0 []) rfl (restC_one _ _) ?_
         intro W2 hB2 hg2
         have hBe2 : Below w.heap.size w W2 := hBe.grown hg2 hBe.size (by simp)
         clear hg2))
        refine bodyPost_ret (results_cell_tmp rfl _ _ w.heap.size 138 (restC 0 (pad [])) (0, 0) _ rfl hB2 Tryd.underlying138 rfl (info_rest' 0 [])) rfl ⟨by rw [hP.out]; rfl, hBe2⟩
    · exact absurd (chk_ok (by rw [hxl.out]; exact h0) (by rw [hxl.out]; exact h1) (all_end hT.out (by rw [hxl.out]; omega))) hC.out

set_option maxRecDepth 100000 in
set_option maxHeartbeats 1000000 in
theorem laid_ok (A : Option Addr) (n c : Nat) (xs : List Int) (w : World) (ha : RInts w w.heap.size A n xs) (hn : n ≤ maxLen) (hc : chk xs = 0) :
    Calls Tryd.prog 82 #[.slice A n c] w fun e w' => e = .returned (.tuple #[.agg (restC n (pad xs)), .int .i64 0]) ∧ Below w.heap.size w w' := by
  unfold maxLen at hn
  have hxl := Lib.hid ha.len
  have hC := Lib.hid hc
  clear hc
  by_cases h0 : n = 0
  · subst h0
    have := chk_empty hxl.out
    rw [hC.out] at this; cases this
  have hb : ((n : Int) == 0) = false := by simp; omega
  by_cases h1 : 16 < n
  · have := chk_many (xs := xs) (by rw [hxl.out]; exact h1)
    rw [hC.out] at this; cases this
  go_enter Tryd.func82, Tryd.ntmps82
  go_wp2_with (first
      | (with_reducible show wpList _ _ _ (⟨_, .store 138 (.tmp 4) (.tmp 9), _, _, _, _⟩ :: _) _ _
         refine wpList_store_blk rfl 138 _ _ rfl (w.heap.size + 1) (restC n (pad [])) rfl rfl 138 (restC 0 (pad [])) (heap_alloc2_new _ _ _) (info_rest' n []) rfl (restC_one _ _) ?_
         intro W1 hB1 hg1
         have hB0 : Blk W1 w.heap.size 138 (restC 0 (pad [])) := Blk.grown (heap_alloc2_old _ _ _) hg1 (by simp)
         have hBe : Below w.heap.size w W1 := (((Below.refl _ _).alloc (Nat.le_refl _) _).alloc (by simp) _).grown hg1 (by simp; omega) (by simp)
         have hc0 : W1.cell? ⟨w.heap.size + 1, 0, none⟩ = some (.int .i64 (n : Nat)) := by rw [hB1.cell, restC_zero]
         clear hg1))
  go_loopw [22] (fun i wr => ∃ k : Nat, k ≤ n ∧ i = .int .i64 k ∧ Blk wr w.heap.size 138 (restC 0 (pad [])) ∧ Blk wr (w.heap.size + 1) 138 (restC n (pad (xs.take k))) ∧ Below w.heap.size w wr) (fun i _ => n - (intOf i).toNat)
  case atStart => exact ⟨0, by omega, rfl, hB0, hB1, hBe⟩
  case round =>
    clear hB0 hB1 hBe hc0
    obtain ⟨k, hk, rfl, hB0, hB1, hBe⟩ := hrel
    by_cases hlt : k < n
    · obtain ⟨ad, x, rfl, _, hx1, hx⟩ := (ha.below hBe).at_ hlt
      obtain ⟨u, hu⟩ := restC_cell (xs := xs.take k) (n := n) (k := k) (by omega)
      have hcell : wr.cell? ⟨w.heap.size + 1, 1 + k, none⟩ = some (.bool u) := by rw [hB1.cell, hu]
      have hfz := hB1.frozen (1 + k)
      have hU := Lib.hid hu
      clear hu
      have ho := okx_of_chk hC.out hx.out
      have hN : Blk (wr.setCell ⟨w.heap.size + 1, 1 + k, none⟩ (.bool (x == 1))) (w.heap.size + 1) 138 (restC n (pad (xs.take (k + 1)))) := by
        have := hB1.set_ (1 + k) (.bool (x == 1)); rwa [restC_set, pad_step (by omega) hx.out] at this
      have hN0 : Blk (wr.setCell ⟨w.heap.size + 1, 1 + k, none⟩ (.bool (x == 1))) w.heap.size 138 (restC 0 (pad [])) := hB0.far (by simp) _
      have hNe : Below w.heap.size w (wr.setCell ⟨w.heap.size + 1, 1 + k, none⟩ (.bool (x == 1))) := hBe.setCell (by simp) _
      by_cases e0 : x = 0
      · subst e0
        clear ho
        go_wp2_with (fail)
        go_roundw
        case rel => exact ⟨k + 1, by omega, by go_num, hN0, hN, hNe⟩
        case measure => simp [intOf]; omega
      · obtain rfl : x = 1 := by simp [okx] at ho; omega
        clear ho
        go_wp2_with (fail)
        go_roundw
        case rel => exact ⟨k + 1, by omega, by go_num, hN0, hN, hNe⟩
        case measure => simp [intOf]; omega
    · have hkn : k = n := by omega
      subst hkn
      rw [pad_end (by rw [hxl.out]; exact Nat.le_refl _)] at hB1
      go_wp2_with (first
        | (with_reducible show wpList _ _ _ (⟨_, .load 138 (.tmp 4), _, _, _, _⟩ :: _) _ _
           refine wpList_load_blk rfl 138 _ rfl (w.heap.size + 1) rfl 138 (restC k (pad xs)) _ hB1 Tryd.underlying138 rfl (info_rest' k xs) ?_)
        | (with_reducible show wpList _ _ _ (⟨_, .store 138 (.tmp 2) _, _, _, _, _⟩ :: _) _ _
           refine wpList_store_blk rfl 138 _ _ rfl w.heap.size (restC k (pad xs)) rfl rfl 138 (restC 0 (pad [])) (by assumption) (info_rest' k xs) (restC_sizes _ _ _ _) (restC_one _ _) ?_
           intro W2 hB2 hg2
           have hBe2 : Below w.heap.size w W2 := hBe.grown hg2 hBe.size (by simp)
           clear hg2))
      refine bodyPost_ret (results_cell_tmp rfl _ _ w.heap.size 138 (restC k (pad xs)) (0, 0) _ rfl hB2 Tryd.underlying138 rfl (info_rest' k xs)) rfl ⟨rfl, hBe2⟩
end Go.Proofs.YtkbfmogjhjdjmaaDoor.Cl
/- The number of a rest. -/
namespace Go.Proofs.YtkbfmogjhjdjmaaDoor.Cl
open Go.RowKit
theorem rest_range (w : World) (n : Nat) (b : List Bool) : (w.alloc (.cells (restC n b) 138)).rangeAt w.heap.size 1 (b.map Value.bool) := by
  intro j v hv
  rw [Blk.cell (Blk.new w _ _), restC_at]
  simpa using hv
theorem info_bools (b : List Bool) (h : b.length = 16) : (Tryd.prog.info? 136).map (·.size) = some (b.map Value.bool).length := by
  rw [List.length_map, h]; kernel_rfl
set_option maxRecDepth 100000 in
set_option maxHeartbeats 400000 in
theorem number_any (n : Nat) (b : List Bool) (hb : b.length = 16) (w : World) :
    Calls Tryd.prog 83 #[.agg (restC n b)] w fun e w' => e = .returned (.int .i64 (gx 4 (binS b) : Nat)) ∧ Below w.heap.size w w' := by
  have hL := Lib.hid hb
  go_enter Tryd.func83, Tryd.ntmps83
  clear hb
  go_wp2_with (first
    | (with_reducible show wpList _ _ _ (⟨_, .load 136 _, _, _, _, _⟩ :: _) _ _
       refine wpList_load_mid rfl 136 _ rfl w.heap.size 1 rfl (b.map Value.bool) _ (rest_range w n b) Tryd.underlying136 rfl (info_bools b hL.out) ?_))
  go_loop [9, 3] (fun i n => ∃ k : Nat, k ≤ 16 ∧ i = .int .i64 k ∧ n = .int .i64 (binS (b.take k) : Nat)) (fun i _ => 16 - (intOf i).toNat)
  case atStart => exact ⟨0, by omega, rfl, rfl⟩
  case round =>
    obtain ⟨k, hk, rfl, rfl⟩ := hrel
    by_cases hlt : k < 16
    · obtain ⟨x, hx⟩ : ∃ x, b[k]? = some x := ⟨b[k]'(by rw [hL.out]; exact hlt), List.getElem?_eq_getElem _⟩
      have hidx := run_index_cells (P := Tryd.prog) (b.map Value.bool).toArray .i64 k (.bool x) Tryd.underlying136 Tryd.underlying4 rfl (by kernel_rfl) hlt (by simp [hx])
      have hS := Lib.hid hx
      clear hx
      cases x
      · have hN := Lib.hid (no_step hS.out)
        go_wp2_with (fail)
        go_round
        case rel => exact ⟨k + 1, by omega, by go_num, by rw [hN.out]⟩
        case measure => simp [intOf]; omega
      · have hN := Lib.hid (or_step hlt hS.out)
        go_wp2_with (fail)
        go_round
        case rel => exact ⟨k + 1, by omega, by go_num, by rw [hN.out]⟩
        case measure => simp [intOf]; omega
    · obtain rfl : k = 16 := by omega
      have hT : b.take 16 = b := List.take_of_length_le (by rw [hL.out]; exact Nat.le_refl _)
      have hlt16 : binS b < 65536 := by have := binS_lt b; rw [hL.out] at this; exact this
      rw [hT]
      have hH := Lib.hid hlt16
      clear hT hlt16
      obtain ⟨N, hN⟩ : ∃ N, N = binS b := ⟨_, rfl⟩
      rw [← hN] at hH ⊢
      have hNN := Lib.hid hN
      clear hN
      go_wp2_with (fail)
      go_loop [6, 3] (fun i n => ∃ j : Nat, j ≤ 4 ∧ i = .int .i64 (2 ^ j : Nat) ∧ n = .int .i64 (gx j N : Nat)) (fun i _ => 17 - (intOf i).toNat)
      case atStart => exact ⟨0, by omega, rfl, rfl⟩
      case round =>
        obtain ⟨j, hj, rfl, rfl⟩ := hrel
        have hX := Lib.hid (xor_step j N hH.out)
        have hj' : j = 0 ∨ j = 1 ∨ j = 2 ∨ j = 3 ∨ j = 4 := by omega
        rcases hj' with rfl | rfl | rfl | rfl | rfl
        · go_wp2_with (fail)
          go_round
          case rel => exact ⟨1, by omega, by simp, by rw [← hX.out]; simp⟩
          case measure => simp [intOf]
        · go_wp2_with (fail)
          go_round
          case rel => exact ⟨2, by omega, by simp, by rw [← hX.out]; simp⟩
          case measure => simp [intOf]
        · go_wp2_with (fail)
          go_round
          case rel => exact ⟨3, by omega, by simp, by rw [← hX.out]; simp⟩
          case measure => simp [intOf]
        · go_wp2_with (fail)
          go_round
          case rel => exact ⟨4, by omega, by simp, by rw [← hX.out]; simp⟩
          case measure => simp [intOf]
        · go_wp2_with (fail)
          go_ret
          exact ⟨by rw [← hNN.out]; rfl, (Below.refl _ _).alloc (Nat.le_refl _) _⟩
end Go.Proofs.YtkbfmogjhjdjmaaDoor.Cl
/- A whole rest, read at once out of its variable: as a rule for the walk. -/
namespace Go.Proofs.YtkbfmogjhjdjmaaDoor.Cl
open Go.RowKit
theorem execOp_load_rest (ρ : Operand → Value) (dst : Option Tmp) (x : Operand) (ty : TypeId) (pos : String) (after : Array Edge) (guard : Option (Nat × Bool)) :
    execOp ρ { dst, op := .load 138 x, type := ty, pos, after, guard } = (do pure (.value (← loadAgg 138 (ρ x)))) := rfl
theorem run_load_rest (w : World) (g : Nat) : (loadAgg 138 (.pointer (some ⟨g, 0, none⟩))).run Tryd.prog w = match aggAt 138 17 w g with | some cs => .ok (.agg cs) w | none => aggStuck Tryd.prog 138 w g :=
  run_loadAgg Tryd.underlying138 rfl info_rest w g
theorem restAt_of {w : World} {g n : Nat} {xs : List Int} (h : Blk w g 138 (restC n (pad xs))) : aggAt 138 17 w g = some (restC n (pad xs)) :=
  aggAt_of h (by rw [restC_size, pad_length])
end Go.Proofs.YtkbfmogjhjdjmaaDoor.Cl
/- The walk from a position to another one, or their error. -/
namespace Go.Proofs.YtkbfmogjhjdjmaaDoor.Cl
open Go.RowKit
def bothE (xs ys : List Int) : Int := if chk xs ≠ 0 then chk xs else if chk ys ≠ 0 then chk ys else if xs.length ≠ ys.length then 5 else 0
def walkC (n a b : Int) : Array Value := #[.int .i64 n, .int .i64 a, .int .i64 b]
theorem walkC_one (n a b : Int) : (walkC n a b).all (·.oneCell') = true := by simp [walkC, Value.oneCell']
theorem zero_walk (w : World) : (zeroValue 124).run Tryd.prog w = .ok (.agg (walkC 0 0 0)) w := Tryd.zeroValue124 w
theorem zero_rest (w : World) : (zeroValue 138).run Tryd.prog w = .ok (.agg (restC 0 (pad []))) w := Tryd.zeroValue138 w
theorem info_walk (n a b : Int) : (Tryd.prog.info? 124).map (·.size) = some (walkC n a b).size := by
  show _ = some 3; kernel_rfl
theorem number_pad (n : Nat) (xs : List Int) (hc : chk xs = 0) (w : World) :
    Calls Tryd.prog 83 #[.agg (restC n (pad xs))] w fun e w' => e = .returned (.int .i64 (numS xs : Nat)) ∧ Below w.heap.size w w' := by
  have h := chk_zero hc
  have := number_any n (pad xs) (pad_length xs) w
  rwa [numS_pad xs (bin_of_all h.2.2) h.2.1] at this
attribute [local go_sem ↓] execOp_load_rest
attribute [local go_sem] run_load_rest
abbrev walkedS (w : World) (g4 g6 g8 n : Nat) (xs ys : List Int) (w' : World) : Prop :=
  aggAt 138 17 w' g6 = some (restC n (pad xs)) ∧ aggAt 138 17 w' g8 = some (restC n (pad ys)) ∧ w'.cell? ⟨g6, 0, none⟩ = some (.int .i64 (n : Int)) ∧
      (∃ cs, Blk w' g4 124 cs ∧ cs.size = 3) ∧ Blk w' g6 138 (restC n (pad xs)) ∧ Blk w' g8 138 (restC n (pad ys)) ∧ Below w.heap.size w w'
theorem walkedS_of {w w' : World} {g4 g6 g8 n : Nat} {xs ys : List Int} (h4 : ∃ cs, Blk w' g4 124 cs ∧ cs.size = 3) (h6 : Blk w' g6 138 (restC n (pad xs))) (h8 : Blk w' g8 138 (restC n (pad ys))) (hb : Below w.heap.size w w') : walkedS w g4 g6 g8 n xs ys w' :=
  ⟨restAt_of h6, restAt_of h8, by rw [h6.cell, restC_zero], h4, h6, h8, hb⟩
theorem walkedS_keep {w w0 w' : World} {g4 g6 g8 n : Nat} {xs ys : List Int} (h : walkedS w g4 g6 g8 n xs ys w0) (hb : Below w0.heap.size w0 w') : walkedS w g4 g6 g8 n xs ys w' := by
  obtain ⟨_, _, _, ⟨cs, h4, hs⟩, h6, h8, hB⟩ := h
  exact walkedS_of ⟨cs, h4.callee hb, hs⟩ (h6.callee hb) (h8.callee hb) (hB.trans (hb.mono hB.size))
theorem walkedS_store {w w0 : World} {g4 g6 g8 n : Nat} {xs ys : List Int} (h : walkedS w g4 g6 g8 n xs ys w0) (h46 : g6 ≠ g4) (h48 : g8 ≠ g4) (h4 : w.heap.size ≤ g4) (i : Nat) (v : Value) : walkedS w g4 g6 g8 n xs ys (w0.setCell ⟨g4, i, none⟩ v) := by
  obtain ⟨_, _, _, ⟨cs, hB4, hs⟩, h6, h8, hB⟩ := h
  exact walkedS_of ⟨_, hB4.set_ i v, by simpa using hs⟩ (h6.far h46 _) (h8.far h48 _) (hB.setCell h4 _)
theorem walkedS_cells {w w0 : World} {g4 g6 g8 n : Nat} {xs ys : List Int} (h : walkedS w g4 g6 g8 n xs ys w0) : ∃ v0 v1 v2, Blk w0 g4 124 #[v0, v1, v2] ∧ w0.cell? ⟨g4, 0, none⟩ = some v0 ∧ w0.cell? ⟨g4, 1, none⟩ = some v1 ∧ w0.cell? ⟨g4, 2, none⟩ = some v2 ∧
    w0.frozen? ⟨g4, 0, none⟩ = false ∧ w0.frozen? ⟨g4, 1, none⟩ = false ∧ w0.frozen? ⟨g4, 2, none⟩ = false := by
  obtain ⟨_, _, _, ⟨cs, h4, hs⟩, _⟩ := h
  obtain ⟨l⟩ := cs
  match l, hs with
  | [v0, v1, v2], _ => exact ⟨v0, v1, v2, h4, by rw [h4.cell]; rfl, by rw [h4.cell]; rfl, by rw [h4.cell]; rfl, h4.frozen _, h4.frozen _, h4.frozen _⟩
set_option maxRecDepth 100000 in
set_option maxHeartbeats 1000000 in
theorem walked_ok (A B : Option Addr) (n c d : Nat) (xs ys : List Int) (w : World) (ha : RInts w w.heap.size A n xs) (hb : RInts w w.heap.size B n ys) (hn : n ≤ maxLen) (hx : chk xs = 0) (hy : chk ys = 0) :
    Calls Tryd.prog 71 #[.slice A n c, .slice B n d] w fun e w' => e = .returned (.tuple #[.agg (walkC n (numS xs) (numS ys)), .int .i64 0]) ∧ Below w.heap.size w w' := by
  have hX := Lib.hid hx
  have hY := Lib.hid hy
  clear hx hy
  go_enter Tryd.func71, Tryd.ntmps71
  go_wp2_with (first
    | (with_reducible show wpList _ _ _ (⟨some 4, .alloc 124, _, _, _, _⟩ :: _) _ _
       refine wpList_alloc_blk rfl 124 rfl _ zero_walk ?_
       intro w1 g4 hB4 hg1 hs1
       have hBe1 : Below w.heap.size w w1 := below_none (Below.refl _ _) hg1 (Nat.le_refl _)
       have hs14 := hs1
       clear hg1)
    | (go_at_call 82
       have _t := hs1
       refine (laid_ok A n c xs w1 ((ha.below hBe1).more hBe1.size) hn hX.out).mono ?_
       rintro e w2 ⟨rfl, hb2⟩
       have hB42 := hB4.callee hb2
       have hBe2 := hBe1.trans (hb2.mono hBe1.size)
       have hl4 := hB42.lt
       clear hb2 hB4 hs1)
    | (with_reducible show wpList _ _ _ (⟨some 6, .alloc 138, _, _, _, _⟩ :: _) _ _
       refine wpList_alloc_blk rfl 138 rfl _ zero_rest ?_
       intro w3 g6 hB6 hg3 hs3
       have hB43 := hB42.none_ hg3
       have hBe3 := below_none hBe2 hg3 hBe2.size
       clear hg3 hB42)
    | (with_reducible show wpList _ _ _ (⟨_, .store 138 (.tmp 6) _, _, _, _, _⟩ :: _) _ _
       refine wpList_store_blk rfl 138 _ _ rfl g6 (restC n (pad xs)) rfl rfl 138 (restC 0 (pad [])) hB6 (info_rest' n xs) (restC_sizes _ _ _ _) (restC_one _ _) ?_
       intro w4 hB64 hg4
       have hB44 := hB43.some_ hg4 (by omega)
       have hBe4 := below_some hBe3 hg4 hBe3.size (by have := hBe2.size; omega)
       have hl6 := hB64.lt
       clear hg4 hB43 hB6)
    | (go_at_call 82
       have _t := hB64
       refine (laid_ok B n d ys w4 ((hb.below hBe4).more hBe4.size) hn hY.out).mono ?_
       rintro e w5 ⟨rfl, hb5⟩
       have hB45 := hB44.callee hb5
       have hB65 := hB64.callee hb5
       have hBe5 := hBe4.trans (hb5.mono hBe4.size)
       have hl6' := hB65.lt
       clear hb5 hB44 hB64)
    | (with_reducible show wpList _ _ _ (⟨some 8, .alloc 138, _, _, _, _⟩ :: _) _ _
       refine wpList_alloc_blk rfl 138 rfl _ zero_rest ?_
       intro w6 g8 hB8 hg6 hs6
       have hB46 := hB45.none_ hg6
       have hB66 := hB65.none_ hg6
       have hBe6 := below_none hBe5 hg6 hBe5.size
       clear hg6 hB45 hB65)
    | (with_reducible show wpList _ _ _ (⟨_, .store 138 (.tmp 8) _, _, _, _, _⟩ :: _) _ _
       refine wpList_store_blk rfl 138 _ _ rfl g8 (restC n (pad ys)) rfl rfl 138 (restC 0 (pad [])) hB8 (info_rest' n ys) (restC_sizes _ _ _ _) (restC_one _ _) ?_
       intro w7 hB87 hg7
       have hB47 := hB46.some_ hg7 (by have := hB46.lt; have := hBe5.size; omega)
       have hB67 := hB66.some_ hg7 (by omega)
       have hBe7 := below_some hBe6 hg7 hBe6.size (by have := hBe5.size; omega)
       have hc6 : w7.cell? ⟨g6, 0, none⟩ = some (.int .i64 (n : Int)) := by rw [hB67.cell, restC_zero]
       have hc8 : w7.cell? ⟨g8, 0, none⟩ = some (.int .i64 (n : Int)) := by rw [hB87.cell, restC_zero]
       clear hg7 hB46 hB66 hB8))
  have hr6 := restAt_of hB67
  have hr8 := restAt_of hB87
  have hne6 : g6 ≠ g4 := by omega
  have hne8 : g8 ≠ g4 := by omega
  have hge4 := hs14
  go_region_held3 (fun w' => aggAt 138 17 w' g6 = some (restC n (pad xs)) ∧ aggAt 138 17 w' g8 = some (restC n (pad ys)) ∧ w'.cell? ⟨g6, 0, none⟩ = some (.int .i64 (n : Int)) ∧
      (∃ cs, Blk w' g4 124 cs ∧ cs.size = 3) ∧ Blk w' g6 138 (restC n (pad xs)) ∧ Blk w' g8 138 (restC n (pad ys)) ∧ Below w.heap.size w w')
    (first | assumption | exact walkedS_of ⟨_, hB47, rfl⟩ hB67 hB87 hBe7.drew | exact walkedS_store (walkedS_store (walkedS_store (by assumption) hne6 hne8 hge4 _ _) hne6 hne8 hge4 _ _) hne6 hne8 hge4 _ _)
    (first | (go_at_call_of 83 (Value.agg (restC n (pad xs))); refine (number_pad n xs hX.out _).mono ?_; rintro e w8 ⟨rfl, hb8⟩; have hS8 := walkedS_keep (by assumption) hb8) | (go_at_call_of 83 (Value.agg (restC n (pad ys))); refine (number_pad n ys hY.out _).mono ?_; rintro e w9 ⟨rfl, hb9⟩; have hS9 := walkedS_keep (by assumption) hb9; obtain ⟨v0, v1, v2, hB9, k0, k1, k2, f0, f1, f2⟩ := walkedS_cells hS9))
  go_wp2_with (fail)
  have hBf : Blk (((w9.setCell ⟨g4, 0, none⟩ (.int .i64 (n : Int))).setCell ⟨g4, 1, none⟩ (.int .i64 (numS xs : Nat))).setCell ⟨g4, 2, none⟩ (.int .i64 (numS ys : Nat))) g4 124 (walkC n (numS xs) (numS ys)) := ((hB9.set_ 0 _).set_ 1 _).set_ 2 _
  obtain ⟨_, _, _, _, _, _, hBeF⟩ := hS9
  exact bodyPost_ret (results_cell_tmp rfl _ _ g4 124 _ (0, 0) _ rfl hBf Tryd.underlying124 rfl (info_walk n _ _)) rfl ⟨rfl, ((hBeF.setCell hge4 _).setCell hge4 _).setCell hge4 _⟩

theorem both_ok {xs ys : List Int} (h : bothE xs ys = 0) : chk xs = 0 ∧ chk ys = 0 ∧ xs.length = ys.length := by
  unfold bothE at h
  by_cases h1 : chk xs = 0
  · by_cases h2 : chk ys = 0
    · by_cases h3 : xs.length = ys.length
      · exact ⟨h1, h2, h3⟩
      · simp [h1, h2, h3] at h
    · simp [h1, h2] at h
  · simp [h1] at h
theorem both_of {xs ys : List Int} (h1 : chk xs = 0) (h2 : chk ys = 0) (h3 : xs.length = ys.length) : bothE xs ys = 0 := by simp [bothE, h1, h2, h3]
theorem both_1 {xs ys : List Int} (h : chk xs ≠ 0) : bothE xs ys = chk xs := by simp [bothE, h]
theorem both_2 {xs ys : List Int} (h1 : chk xs = 0) (h : chk ys ≠ 0) : bothE xs ys = chk ys := by simp [bothE, h1, h]
theorem both_3 {xs ys : List Int} (h1 : chk xs = 0) (h2 : chk ys = 0) (h : xs.length ≠ ys.length) : bothE xs ys = 5 := by simp [bothE, h1, h2, h]
set_option maxRecDepth 100000 in
set_option maxHeartbeats 1000000 in
theorem walked_bad (A B : Option Addr) (n m c d : Nat) (xs ys : List Int) (w : World) (ha : RInts w w.heap.size A n xs) (hb : RInts w w.heap.size B m ys) (hn : n ≤ maxLen) (hm : m ≤ maxLen) (he : bothE xs ys ≠ 0) :
    Calls Tryd.prog 71 #[.slice A n c, .slice B m d] w fun e w' => e = .returned (.tuple #[.agg (walkC 0 0 0), .int .i64 (bothE xs ys)]) ∧ Below w.heap.size w w' := by
  have hE := Lib.hid he
  clear he
  by_cases hx : chk xs = 0
  · have hX := Lib.hid hx
    clear hx
    by_cases hy : chk ys = 0
    · have hY := Lib.hid hy
      clear hy
      have hnm : n ≠ m := by
        intro h
        exact hE.out (both_of hX.out hY.out (by rw [ha.len, hb.len, h]))
      have hP := Lib.hid (both_3 hX.out hY.out (by rw [ha.len, hb.len]; exact hnm))
      have hnb : ((n : Int) != (m : Int)) = true := by simp; omega
      go_enter Tryd.func71, Tryd.ntmps71
      go_wp2_with (first
        | (with_reducible show wpList _ _ _ (⟨some 4, .alloc 124, _, _, _, _⟩ :: _) _ _
           refine wpList_alloc_blk rfl 124 rfl _ zero_walk ?_
           intro w1 g4 hB4 hg1 hs1
           have hBe1 : Below w.heap.size w w1 := below_none (Below.refl _ _) hg1 (Nat.le_refl _)
           have hs14 := hs1
           clear hg1)
        | (go_at_call 82
           have _t := hs1
           refine (laid_ok A n c xs w1 ((ha.below hBe1).more hBe1.size) hn hX.out).mono ?_
           rintro e w2 ⟨rfl, hb2⟩
           have hB42 := hB4.callee hb2
           have hBe2 := hBe1.trans (hb2.mono hBe1.size)
           have hl4 := hB42.lt
           clear hb2 hB4 hs1)
        | (with_reducible show wpList _ _ _ (⟨some 6, .alloc 138, _, _, _, _⟩ :: _) _ _
           refine wpList_alloc_blk rfl 138 rfl _ zero_rest ?_
           intro w3 g6 hB6 hg3 hs3
           have hB43 := hB42.none_ hg3
           have hBe3 := below_none hBe2 hg3 hBe2.size
           clear hg3 hB42)
        | (with_reducible show wpList _ _ _ (⟨_, .store 138 (.tmp 6) _, _, _, _, _⟩ :: _) _ _
           refine wpList_store_blk rfl 138 _ _ rfl g6 (restC n (pad xs)) rfl rfl 138 (restC 0 (pad [])) hB6 (info_rest' n xs) (restC_sizes _ _ _ _) (restC_one _ _) ?_
           intro w4 hB64 hg4
           have hB44 := hB43.some_ hg4 (by omega)
           have hBe4 := below_some hBe3 hg4 hBe3.size (by have := hBe2.size; omega)
           have hl6 := hB64.lt
           clear hg4 hB43 hB6)
        | (go_at_call 82
           have _t := hB64
           refine (laid_ok B m d ys w4 ((hb.below hBe4).more hBe4.size) hm hY.out).mono ?_
           rintro e w5 ⟨rfl, hb5⟩
           have hB45 := hB44.callee hb5
           have hB65 := hB64.callee hb5
           have hBe5 := hBe4.trans (hb5.mono hBe4.size)
           have hl6' := hB65.lt
           clear hb5 hB44 hB64)
        | (with_reducible show wpList _ _ _ (⟨some 8, .alloc 138, _, _, _, _⟩ :: _) _ _
           refine wpList_alloc_blk rfl 138 rfl _ zero_rest ?_
           intro w6 g8 hB8 hg6 hs6
           have hB46 := hB45.none_ hg6
           have hB66 := hB65.none_ hg6
           have hBe6 := below_none hBe5 hg6 hBe5.size
           clear hg6 hB45 hB65)
        | (with_reducible show wpList _ _ _ (⟨_, .store 138 (.tmp 8) _, _, _, _, _⟩ :: _) _ _
           refine wpList_store_blk rfl 138 _ _ rfl g8 (restC m (pad ys)) rfl rfl 138 (restC 0 (pad [])) hB8 (info_rest' m ys) (restC_sizes _ _ _ _) (restC_one _ _) ?_
           intro w7 hB87 hg7
           have hB47 := hB46.some_ hg7 (by have := hB46.lt; have := hBe5.size; omega)
           have hB67 := hB66.some_ hg7 (by omega)
           have hBe7 := below_some hBe6 hg7 hBe6.size (by have := hBe5.size; omega)
           have hc6 : w7.cell? ⟨g6, 0, none⟩ = some (.int .i64 (n : Int)) := by rw [hB67.cell, restC_zero]
           have hc8 : w7.cell? ⟨g8, 0, none⟩ = some (.int .i64 ((m : Nat) : Int)) := by rw [hB87.cell, restC_zero]
           clear hg7 hB46 hB66 hB8)
        | (with_reducible show wpList _ _ _ (⟨_, .store 124 (.tmp 4) _, _, _, _, _⟩ :: _) _ _
           refine wpList_store_blk rfl 124 _ _ rfl g4 (walkC 0 0 0) rfl rfl 124 (walkC 0 0 0) hB47 (info_walk 0 0 0) rfl (walkC_one _ _ _) ?_
           intro w10 hB410 hg10
           have hBe10 := below_some hBe7 hg10 hBe7.size hs14
           clear hg10))
      refine bodyPost_ret (results_cell_tmp rfl _ _ g4 124 (walkC 0 0 0) (0, 0) _ rfl hB410 Tryd.underlying124 rfl (info_walk 0 0 0)) rfl ⟨by rw [hP.out]; rfl, hBe10⟩
    · have hY := Lib.hid hy
      clear hy
      have hP := Lib.hid (both_2 hX.out hY.out)
      have hnb : (chk ys != 0) = true := by simpa using hY.out
      go_enter Tryd.func71, Tryd.ntmps71
      go_wp2_with (first
        | (with_reducible show wpList _ _ _ (⟨some 4, .alloc 124, _, _, _, _⟩ :: _) _ _
           refine wpList_alloc_blk rfl 124 rfl _ zero_walk ?_
           intro w1 g4 hB4 hg1 hs1
           have hBe1 : Below w.heap.size w w1 := below_none (Below.refl _ _) hg1 (Nat.le_refl _)
           have hs14 := hs1
           clear hg1)
        | (go_at_call 82
           have _t := hs1
           refine (laid_ok A n c xs w1 ((ha.below hBe1).more hBe1.size) hn hX.out).mono ?_
           rintro e w2 ⟨rfl, hb2⟩
           have hB42 := hB4.callee hb2
           have hBe2 := hBe1.trans (hb2.mono hBe1.size)
           have hl4 := hB42.lt
           clear hb2 hB4 hs1)
        | (with_reducible show wpList _ _ _ (⟨some 6, .alloc 138, _, _, _, _⟩ :: _) _ _
           refine wpList_alloc_blk rfl 138 rfl _ zero_rest ?_
           intro w3 g6 hB6 hg3 hs3
           have hB43 := hB42.none_ hg3
           have hBe3 := below_none hBe2 hg3 hBe2.size
           clear hg3 hB42)
        | (with_reducible show wpList _ _ _ (⟨_, .store 138 (.tmp 6) _, _, _, _, _⟩ :: _) _ _
           refine wpList_store_blk rfl 138 _ _ rfl g6 (restC n (pad xs)) rfl rfl 138 (restC 0 (pad [])) hB6 (info_rest' n xs) (restC_sizes _ _ _ _) (restC_one _ _) ?_
           intro w4 hB64 hg4
           have hB44 := hB43.some_ hg4 (by omega)
           have hBe4 := below_some hBe3 hg4 hBe3.size (by have := hBe2.size; omega)
           have hl6 := hB64.lt
           clear hg4 hB43 hB6)
        | (go_at_call 82
           have _t := hB64
           refine (laid_bad B m d ys w4 ((hb.below hBe4).more hBe4.size) hm hY.out).mono ?_
           rintro e w5 ⟨rfl, hb5⟩
           have hB45 := hB44.callee hb5
           have hB65 := hB64.callee hb5
           have hBe5 := hBe4.trans (hb5.mono hBe4.size)
           have hl6' := hB65.lt
           clear hb5 hB44 hB64)
        | (with_reducible show wpList _ _ _ (⟨some 8, .alloc 138, _, _, _, _⟩ :: _) _ _
           refine wpList_alloc_blk rfl 138 rfl _ zero_rest ?_
           intro w6 g8 hB8 hg6 hs6
           have hB46 := hB45.none_ hg6
           have hB66 := hB65.none_ hg6
           have hBe6 := below_none hBe5 hg6 hBe5.size
           clear hg6 hB45 hB65)
        | (with_reducible show wpList _ _ _ (⟨_, .store 138 (.tmp 8) _, _, _, _, _⟩ :: _) _ _
           refine wpList_store_blk rfl 138 _ _ rfl g8 (restC 0 (pad [])) rfl rfl 138 (restC 0 (pad [])) hB8 (info_rest' 0 []) (restC_sizes _ _ _ _) (restC_one _ _) ?_
           intro w7 hB87 hg7
           have hB47 := hB46.some_ hg7 (by have := hB46.lt; have := hBe5.size; omega)
           have hB67 := hB66.some_ hg7 (by omega)
           have hBe7 := below_some hBe6 hg7 hBe6.size (by have := hBe5.size; omega)
           have hc6 : w7.cell? ⟨g6, 0, none⟩ = some (.int .i64 (n : Int)) := by rw [hB67.cell, restC_zero]
           have hc8 : w7.cell? ⟨g8, 0, none⟩ = some (.int .i64 ((0 : Nat) : Int)) := by rw [hB87.cell, restC_zero]
           clear hg7 hB46 hB66 hB8)
        | (with_reducible show wpList _ _ _ (⟨_, .store 124 (.tmp 4) _, _, _, _, _⟩ :: _) _ _
           refine wpList_store_blk rfl 124 _ _ rfl g4 (walkC 0 0 0) rfl rfl 124 (walkC 0 0 0) hB47 (info_walk 0 0 0) rfl (walkC_one _ _ _) ?_
           intro w10 hB410 hg10
           have hBe10 := below_some hBe7 hg10 hBe7.size hs14
           clear hg10))
      refine bodyPost_ret (results_cell_tmp rfl _ _ g4 124 (walkC 0 0 0) (0, 0) _ rfl hB410 Tryd.underlying124 rfl (info_walk 0 0 0)) rfl ⟨by rw [hP.out]; rfl, hBe10⟩
  · have hX := Lib.hid hx
    clear hx
    have hP := Lib.hid (both_1 (ys := ys) hX.out)
    have hnb : (chk xs != 0) = true := by simpa using hX.out
    go_enter Tryd.func71, Tryd.ntmps71
    go_wp2_with (first
      | (with_reducible show wpList _ _ _ (⟨some 4, .alloc 124, _, _, _, _⟩ :: _) _ _
         refine wpList_alloc_blk rfl 124 rfl _ zero_walk ?_
         intro w1 g4 hB4 hg1 hs1
         have hBe1 : Below w.heap.size w w1 := below_none (Below.refl _ _) hg1 (Nat.le_refl _)
         have hs14 := hs1
         clear hg1)
      | (go_at_call 82
         have _t := hs1
         refine (laid_bad A n c xs w1 ((ha.below hBe1).more hBe1.size) hn hX.out).mono ?_
         rintro e w2 ⟨rfl, hb2⟩
         have hB42 := hB4.callee hb2
         have hBe2 := hBe1.trans (hb2.mono hBe1.size)
         have hl4 := hB42.lt
         clear hb2 hB4 hs1)
      | (with_reducible show wpList _ _ _ (⟨some 6, .alloc 138, _, _, _, _⟩ :: _) _ _
         refine wpList_alloc_blk rfl 138 rfl _ zero_rest ?_
         intro w3 g6 hB6 hg3 hs3
         have hB43 := hB42.none_ hg3
         have hBe3 := below_none hBe2 hg3 hBe2.size
         clear hg3 hB42)
      | (with_reducible show wpList _ _ _ (⟨_, .store 138 (.tmp 6) _, _, _, _, _⟩ :: _) _ _
         refine wpList_store_blk rfl 138 _ _ rfl g6 (restC 0 (pad [])) rfl rfl 138 (restC 0 (pad [])) hB6 (info_rest' 0 []) (restC_sizes _ _ _ _) (restC_one _ _) ?_
         intro w4 hB64 hg4
         have hB44 := hB43.some_ hg4 (by omega)
         have hBe4 := below_some hBe3 hg4 hBe3.size (by have := hBe2.size; omega)
         have hl6 := hB64.lt
         clear hg4 hB43 hB6)
      | (with_reducible show wpList _ _ _ (⟨_, .store 124 (.tmp 4) _, _, _, _, _⟩ :: _) _ _
         refine wpList_store_blk rfl 124 _ _ rfl g4 (walkC 0 0 0) rfl rfl 124 (walkC 0 0 0) hB44 (info_walk 0 0 0) rfl (walkC_one _ _ _) ?_
         intro w10 hB410 hg10
         have hBe10 := below_some hBe4 hg10 hBe4.size hs14
         clear hg10))
    refine bodyPost_ret (results_cell_tmp rfl _ _ g4 124 (walkC 0 0 0) (0, 0) _ rfl hB410 Tryd.underlying124 rfl (info_walk 0 0 0)) rfl ⟨by rw [hP.out]; rfl, hBe10⟩
end Go.Proofs.YtkbfmogjhjdjmaaDoor.Cl
/- How often 2 divides a number, by the library's table; the ring between two places of the line. -/
namespace Go.Proofs.YtkbfmogjhjdjmaaDoor.Cl
open Go.RowKit
/-- the library's table lies in its variable -/
def Tab (w : World) : Prop := 2 < w.heap.size ∧ TabAt 2 Lib.deBruijn64tab w
theorem Tab.later {w w' : World} (h : Tab w) (hb : Below w.heap.size w w') : Tab w' :=
  ⟨Nat.lt_of_lt_of_le h.1 hb.size, fun j hj => (hb.cell (p := ⟨2, j, none⟩) h.1).trans (h.2 j hj)⟩
theorem Tab.drew {w : World} (h : Tab w) : Tab w.drew := h
set_option maxHeartbeats 1000000 in
theorem tz64_core (x k idx : Nat) (w : World) (hx0 : ((x : Int) == 0) = false)
    (key : IntKind.u64.wrap (bits BinOp.and IntKind.u64 (x : Int) (IntKind.u64.wrap (-(x : Int))) * 285870213051353865) / 288230376151711744 = (idx : Int))
    (hi : idx < 64) (hk : k < 64) (hcell : w.cell? ⟨2, idx, none⟩ = some (.int .u8 k)) :
    Calls Tryd.prog 92 #[.int .u64 x] w fun e w' => e = .returned (.int .i64 k) ∧ w' = w := by
  go_enter Tryd.func92, Tryd.ntmps92
  go_wp2_with (simp only [key])
  go_ret
  exact ⟨rfl, rfl⟩
theorem tz64_any (x : Nat) (h0 : 0 < x) (hx : x < 18446744073709551616) (w : World) (hT : Tab w) :
    Calls Tryd.prog 92 #[.int .u64 x] w fun e w' => e = .returned (.int .i64 (tz x)) ∧ w' = w := by
  have hx0 : x ≠ 0 := by omega
  obtain ⟨hlow, hk⟩ := Lib.lowest_bit 64 x hx0 hx
  obtain ⟨hi, htab⟩ := Lib.deBruijn64_at _ hk
  have hcell := hT.2 _ hi
  rw [htab] at hcell
  rw [tz_ctz h0 hx]
  exact tz64_core x _ _ w (by simp; omega) (tz64_key x _ hx hx0 hlow) hi hk hcell
set_option maxHeartbeats 400000 in
theorem tz_any (y : Int) (x : Nat) (hy : y = x) (h0 : 0 < x) (hx : x < 65537) (w : World) (hT : Tab w) :
    Calls Tryd.prog 89 #[.int .u64 y] w fun e w' => e = .returned (.int .i64 (tz x)) ∧ w' = w := by
  subst hy
  go_enter Tryd.func89, Tryd.ntmps89
  go_wp2_with (first | (go_at_call 92; refine (tz64_any x h0 (by omega) _ hT).mono ?_; rintro e w' ⟨rfl, rfl⟩))
  go_ret
  exact ⟨rfl, rfl⟩
set_option maxHeartbeats 400000 in
theorem ring_any (n : Nat) (hn : n < 65536) (w : World) (hT : Tab w) :
    Calls Tryd.prog 84 #[.int .i64 n] w fun e w' => e = .returned (.int .i64 (tz (n + 1))) ∧ w = w' := by
  go_enter Tryd.func84, Tryd.ntmps84
  go_wp2_with (first | (go_at_call 89; refine (tz_any _ (n + 1) (by omega) (by omega) (by omega) _ hT).mono ?_; rintro e w' ⟨rfl, rfl⟩))
  go_ret
  exact ⟨rfl, rfl⟩
theorem ring_any' (y : Int) (n : Nat) (hy : y = n) (hn : n < 65536) (w : World) (hT : Tab w) :
    Calls Tryd.prog 84 #[.int .i64 y] w fun e w' => e = .returned (.int .i64 (tz (n + 1))) ∧ w = w' := by subst hy; exact ring_any n hn w hT
set_option maxHeartbeats 400000 in
theorem size_any (n : Int) (a b : Nat) (ha : a < 65536) (hb : b < 65536) (w : World) :
    Calls Tryd.prog 72 #[.agg #[.int .i64 n, .int .i64 a, .int .i64 b]] w fun e w' => e = .returned (.int .i64 (distS a b : Nat)) ∧ Below w.heap.size w w' := by
  go_enter Tryd.func72, Tryd.ntmps72
  go_wp2_with (fail)
  all_goals
    go_ret
    exact ⟨ret_int (by unfold distS; omega), (Below.refl _ _).alloc (Nat.le_refl _) _⟩
end Go.Proofs.YtkbfmogjhjdjmaaDoor.Cl
/- The position of a rest. -/
namespace Go.Proofs.YtkbfmogjhjdjmaaDoor.Cl
open Go.RowKit
theorem infoI : (Tryd.prog.info? 3).map (fun i => (i.zero, i.size, i.bytes)) = some (some (.int .i64 0), 1, 8) := by kernel_rfl
end Go.Proofs.YtkbfmogjhjdjmaaDoor.Cl
/- The rest of so many rings at a place of the line. -/
namespace Go.Proofs.YtkbfmogjhjdjmaaDoor.Cl
open Go.RowKit
theorem gray_take_step (r n k : Nat) (hk : k < r) : (grayS r n)[k]? = some ((((n ^^^ n / 2) / 2 ^ k % 2 : Nat)) : Int) := by rw [grayS_at r n k hk, gray_bit]
end Go.Proofs.YtkbfmogjhjdjmaaDoor.Cl
/- Check, Number, Position, Distance, At, Farthest of the program. -/
namespace Go.Proofs.YtkbfmogjhjdjmaaDoor.Cl
open Go.RowKit
/-- a list and an error that a call hands back -/
def RetL (ys : List Int) (er : Int) (w : World) (e : Ending) (w' : World) : Prop :=
  ∃ A n c, e = .returned (.tuple #[.slice A n c, .int .i64 er]) ∧ RInts w' w'.heap.size A n ys ∧ n ≤ 65536 ∧ Below w.heap.size w w'
/-- a number and an error that a call hands back -/
def RetI (y : Int) (er : Int) (w : World) (e : Ending) (w' : World) : Prop := e = .returned (.tuple #[.int .i64 y, .int .i64 er]) ∧ Below w.heap.size w w'
def RetE (er : Int) (w : World) (e : Ending) (w' : World) : Prop := e = .returned (.int .i64 er) ∧ Below w.heap.size w w'
theorem RetL_nil {w w' : World} {er : Int} (hb : Below w.heap.size w w') : RetL [] er w (.returned (.tuple #[.slice none 0 0, .int .i64 er])) w' := ⟨none, 0, 0, rfl, RInts.none_, by omega, hb⟩
theorem laid_any (A : Option Addr) (n c : Nat) (xs : List Int) (w : World) (ha : RInts w w.heap.size A n xs) (hn : n ≤ maxLen) :
    Calls Tryd.prog 82 #[.slice A n c] w fun e w' => ∃ m ys, e = .returned (.tuple #[.agg (restC m (pad ys)), .int .i64 (chk xs)]) ∧ Below w.heap.size w w' ∧ (chk xs = 0 → m = n ∧ ys = xs) := by
  by_cases hc : chk xs = 0
  · exact (laid_ok A n c xs w ha hn hc).mono fun e w' ⟨he, hb⟩ => ⟨n, xs, by rw [he, hc], hb, fun _ => ⟨rfl, rfl⟩⟩
  · exact (laid_bad A n c xs w ha hn hc).mono fun e w' ⟨he, hb⟩ => ⟨0, [], by rw [he], hb, fun h => absurd h hc⟩

end Go.Proofs.YtkbfmogjhjdjmaaDoor.Cl
/- The next ring of a walk, and the rest of the walk. -/
namespace Go.Proofs.YtkbfmogjhjdjmaaDoor.Cl
open Go.RowKit
abbrev stepS (g1 : Nat) (n : Int) (a b : Nat) (w' : World) : Prop := w'.cell? ⟨g1, 0, none⟩ = some (.int .i64 n) ∧ w'.cell? ⟨g1, 1, none⟩ = some (.int .i64 a) ∧ w'.cell? ⟨g1, 2, none⟩ = some (.int .i64 b)
theorem stepS_of {w : World} {g1 : Nat} {n : Int} {a b : Nat} (h : Blk w g1 124 (walkC n a b)) : stepS g1 n a b w := ⟨by rw [h.cell]; rfl, by rw [h.cell]; rfl, by rw [h.cell]; rfl⟩
theorem stepS_store {w : World} {g1 g3 : Nat} {n : Int} {a b : Nat} (h : stepS g1 n a b w) (hne : g1 ≠ g3) (i : Nat) (v : Value) : stepS g1 n a b (w.setCell ⟨g3, i, none⟩ v) := by
  have k : ∀ j, (w.setCell ⟨g3, i, none⟩ v).cell? ⟨g1, j, none⟩ = w.cell? ⟨g1, j, none⟩ := fun j => World.cell?_setCell_other _ _ _ _ (fun e => by have := congrArg Addr.block e; simp at this; omega)
  exact ⟨(k 0).trans h.1, (k 1).trans h.2.1, (k 2).trans h.2.2⟩
set_option maxRecDepth 100000 in
set_option maxHeartbeats 1000000 in
theorem step_up (n : Int) (a b : Nat) (hab : a < b) (hb : b < 65536) (w : World) (hT : Tab w) :
    Calls Tryd.prog 73 #[.agg (walkC n a b)] w fun e w' => e = .returned (.tuple #[.int .i64 (tz (a + 1)), .agg (walkC n (a + 1 : Nat) b)]) ∧ Below w.heap.size w w' := by
  go_enter Tryd.func73, Tryd.ntmps73
  go_wp2_with (first
    | (with_reducible show wpList _ _ _ (⟨_, .box 124 _, _, _, _, _⟩ :: _) _ _
       refine wpList_box_blk rfl 124 _ rfl _ rfl ?_
       intro w1 g1 hB1 hg1 hs1
       have hBe1 : Below w.heap.size w w1 := below_none (Below.refl _ _) hg1 (Nat.le_refl _)
       have hl1 := hB1.lt)
    | (with_reducible show wpList _ _ _ (⟨_, .alloc 124, _, _, _, _⟩ :: _) _ _
       refine wpList_alloc_blk rfl 124 rfl _ zero_walk ?_
       intro w2 g3 hB3 hg2 hs2
       have hB12 := hB1.none_ hg2
       have hBe2 := below_none hBe1 hg2 hBe1.size
       have hs3 := hBe1.size
       obtain ⟨c0, c1, c2⟩ := stepS_of hB12
       obtain ⟨d0, d1, d2⟩ := stepS_of hB3
       have f0 := hB3.frozen 0
       have f1 := hB3.frozen 1
       have f2 := hB3.frozen 2
       clear hg1 hg2))
  have hne : g1 ≠ g3 := by omega
  have hT2 := hT.later hBe2
  have hw1 : IntKind.i64.wrap ((a : Int) + 1) = ((a + 1 : Nat) : Int) := by rw [IntWalk.i64_in _ (by omega)]; omega
  go_region_held3 (fun w' => w'.cell? ⟨g1, 0, none⟩ = some (.int .i64 n) ∧ w'.cell? ⟨g1, 1, none⟩ = some (.int .i64 a) ∧ w'.cell? ⟨g1, 2, none⟩ = some (.int .i64 b))
    (first | assumption | exact ⟨c0, c1, c2⟩ | exact stepS_store (stepS_store (stepS_store (by assumption) hne _ _) hne _ _) hne _ _)
    (first | (go_at_call 84; refine (ring_any a (by omega) _ hT2.drew).mono ?_; rintro e w' ⟨rfl, rfl⟩))
  go_wp2_with (fail)
  have hBf : Blk (((w2.drew.setCell ⟨g3, 0, none⟩ (.int .i64 n)).setCell ⟨g3, 1, none⟩ (.int .i64 (a + 1 : Nat))).setCell ⟨g3, 2, none⟩ (.int .i64 b)) g3 124 (walkC n (a + 1 : Nat) b) := ((hB3.drew.set_ 0 _).set_ 1 _).set_ 2 _
  refine bodyPost_ret (results_tmp_cell rfl _ _ g3 124 _ (0, 0) _ rfl hBf Tryd.underlying124 rfl (info_walk n _ _)) rfl ⟨rfl, ?_⟩
  exact ((hBe2.drew.setCell (by show _ ≤ g3; omega) _).setCell (by show _ ≤ g3; omega) _).setCell (by show _ ≤ g3; omega) _
set_option maxRecDepth 100000 in
set_option maxHeartbeats 1000000 in
theorem step_down (n : Int) (a b : Nat) (hab : b < a) (hb : a < 65536) (w : World) (hT : Tab w) :
    Calls Tryd.prog 73 #[.agg (walkC n a b)] w fun e w' => e = .returned (.tuple #[.int .i64 (tz a), .agg (walkC n (a - 1 : Nat) b)]) ∧ Below w.heap.size w w' := by
  obtain ⟨a', rfl⟩ : ∃ a', a = a' + 1 := ⟨a - 1, by omega⟩
  go_enter Tryd.func73, Tryd.ntmps73
  go_wp2_with (first
    | (with_reducible show wpList _ _ _ (⟨_, .box 124 _, _, _, _, _⟩ :: _) _ _
       refine wpList_box_blk rfl 124 _ rfl _ rfl ?_
       intro w1 g1 hB1 hg1 hs1
       have hBe1 : Below w.heap.size w w1 := below_none (Below.refl _ _) hg1 (Nat.le_refl _)
       have hl1 := hB1.lt)
    | (with_reducible show wpList _ _ _ (⟨_, .alloc 124, _, _, _, _⟩ :: _) _ _
       refine wpList_alloc_blk rfl 124 rfl _ zero_walk ?_
       intro w2 g3 hB3 hg2 hs2
       have hB12 := hB1.none_ hg2
       have hBe2 := below_none hBe1 hg2 hBe1.size
       have hs3 := hBe1.size
       obtain ⟨c0, c1, c2⟩ := stepS_of hB12
       obtain ⟨d0, d1, d2⟩ := stepS_of hB3
       have f0 := hB3.frozen 0
       have f1 := hB3.frozen 1
       have f2 := hB3.frozen 2
       clear hg1 hg2))
  have hne : g1 ≠ g3 := by omega
  have hT2 := hT.later hBe2
  have hw1 : IntKind.i64.wrap ((a' : Int) + 1 - 1) = (a' : Int) := by rw [IntWalk.i64_in _ (by omega)]; omega
  have hw2 : IntKind.i64.wrap (a' : Int) = (a' : Int) := IntWalk.i64_in _ (by omega)
  go_region_held3 (fun w' => w'.cell? ⟨g1, 0, none⟩ = some (.int .i64 n) ∧ w'.cell? ⟨g1, 1, none⟩ = some (.int .i64 (a' + 1 : Nat)) ∧ w'.cell? ⟨g1, 2, none⟩ = some (.int .i64 b))
    (first | assumption | exact ⟨c0, c1, c2⟩ | exact stepS_store (stepS_store (stepS_store (by assumption) hne _ _) hne _ _) hne _ _)
    (first | (go_at_call 84; refine (ring_any' _ a' (by first | rfl | omega | simp) (by omega) _ hT2.drew).mono ?_; rintro e w' ⟨rfl, rfl⟩))
  go_wp2_with (fail)
  have hBf : Blk (((w2.drew.setCell ⟨g3, 0, none⟩ (.int .i64 n)).setCell ⟨g3, 1, none⟩ (.int .i64 a')).setCell ⟨g3, 2, none⟩ (.int .i64 b)) g3 124 (walkC n a' b) := ((hB3.drew.set_ 0 _).set_ 1 _).set_ 2 _
  refine bodyPost_ret (results_tmp_cell rfl _ _ g3 124 _ (0, 0) _ rfl hBf Tryd.underlying124 rfl (info_walk n _ _)) rfl ⟨rfl, ?_⟩
  exact ((hBe2.drew.setCell (by show _ ≤ g3; omega) _).setCell (by show _ ≤ g3; omega) _).setCell (by show _ ≤ g3; omega) _
end Go.Proofs.YtkbfmogjhjdjmaaDoor.Cl
/- Position, Distance, At of the program. -/
namespace Go.Proofs.YtkbfmogjhjdjmaaDoor.Cl
open Go.RowKit
def posE (r n : Int) : Int := if 1 ≤ r ∧ r ≤ 16 ∧ 0 ≤ n ∧ n < 2 ^ r.toNat then 0 else 1
def posL (r n : Int) : List Int := if posE r n = 0 then grayS r.toNat n.toNat else []
theorem pow16 {r : Nat} (h : r ≤ 16) : 2 ^ r ≤ 65536 := by
  have : 2 ^ r ≤ 2 ^ 16 := Nat.pow_le_pow_right (by omega) h
  omega
theorem posE_in {r n : Nat} (h1 : 1 ≤ r) (h2 : r ≤ 16) (h3 : n < 2 ^ r) : posE r n = 0 := by
  rw [posE, if_pos]; exact ⟨by omega, by omega, by omega, by simp only [Int.toNat_natCast]; exact_mod_cast h3⟩
theorem posE_out {r n : Int} (h : ¬ (1 ≤ r ∧ r ≤ 16 ∧ 0 ≤ n ∧ n < 2 ^ r.toNat)) : posE r n = 1 := by rw [posE, if_neg h]
/-- what lies beyond the positions of so many rings, as the program asks it -/
theorem shr_big {r n : Nat} (h : 2 ^ r ≤ n) : (0 : Int) < (n : Int) / 2 ^ r := by
  have h1 : 0 < n / 2 ^ r := Nat.div_pos h (Nat.pow_pos (by omega))
  have h2 : ((n / 2 ^ r : Nat) : Int) = (n : Int) / 2 ^ r := by simp
  omega
theorem shr_small {r n : Nat} (h : n < 2 ^ r) : (n : Int) / 2 ^ r = 0 := by
  have h2 : ((n / 2 ^ r : Nat) : Int) = (n : Int) / 2 ^ r := by simp
  rw [← h2, Nat.div_eq_of_lt h]; rfl
theorem walked_pre {A B : Option Addr} {n m : Nat} {xs ys : List Int} {w : World} {BL : Nat} (ha : RInts w BL A n xs) (hb : RInts w BL B m ys) (he : bothE xs ys = 0) :
    n = m ∧ chk xs = 0 ∧ chk ys = 0 ∧ numS xs < 2 ^ n ∧ numS ys < 2 ^ n ∧ 2 ^ n ≤ 65536 ∧ n ≤ 16 ∧ n ≠ 0 := by
  obtain ⟨hx, hy, hl⟩ := both_ok he
  have hz := chk_zero hx
  have e1 := ha.len
  have e2 := hb.len
  have l1 := numS_lt xs
  have l2 := numS_lt ys
  rw [e1] at l1 hz
  rw [e2] at l2
  have hnm : n = m := by omega
  subst hnm
  exact ⟨rfl, hx, hy, l1, l2, pow16 hz.2.1, hz.2.1, hz.1⟩
def atE (xs ys : List Int) (k : Int) : Int := if bothE xs ys ≠ 0 then bothE xs ys else if k < 0 ∨ (distS (numS xs) (numS ys) : Int) < k then 1 else 0
def atL (xs ys : List Int) (k : Int) : List Int := if atE xs ys k = 0 then grayS xs.length (if numS ys < numS xs then numS xs - k.toNat else numS xs + k.toNat) else []
end Go.Proofs.YtkbfmogjhjdjmaaDoor.Cl
/- What can be done with a ring of a rest. -/
namespace Go.Proofs.YtkbfmogjhjdjmaaDoor.Cl
open Go.RowKit
/-- held 0, puts 1, takes 2 -/
def doesS (xs : List Int) (k : Nat) : Int := if canS xs k then (if xs[k]? = some 1 then 2 else 1) else 0
theorem canS_zero (xs : List Int) : canS xs 0 = true := by cases xs <;> rfl
theorem doesS_of {xs : List Int} {k : Nat} {x : Int} {c : Bool} (hc : canS xs k = c) (hx : xs[k]? = some x) : doesS xs k = if c then (if x = 1 then 2 else 1) else 0 := by
  simp [doesS, hc, hx]
end Go.Proofs.YtkbfmogjhjdjmaaDoor.Cl
/- A rest after a ring was moved, or the error. -/
namespace Go.Proofs.YtkbfmogjhjdjmaaDoor.Cl
open Go.RowKit
/-- the error of a move -/
def stepE (xs : List Int) (r : Int) : Int := if r < 0 ∨ (xs.length : Int) ≤ r then 2 else if canS xs r.toNat then 0 else 20
theorem pad_set {xs : List Int} {k : Nat} (hk : k < xs.length) (h16 : xs.length ≤ 16) (y : Int) : (pad xs).set k (y == 1) = pad (xs.set k y) := by
  apply List.ext_getElem?
  intro j
  rw [List.getElem?_set]
  simp only [pad, List.length_map, List.length_range, List.getElem?_map]
  by_cases hj : k = j
  · subst hj
    rw [if_pos rfl, if_pos (by omega), List.getElem?_range (by omega)]
    simp [hk]
  · rw [if_neg hj]
    by_cases h : j < 16
    · simp only [List.getElem?_range h, Option.map_some, List.getElem?_set, if_neg hj]
    · simp [h]
theorem stepE_neg {xs : List Int} {r : Int} (h : r < 0) : stepE xs r = 2 := by rw [stepE, if_pos (Or.inl h)]
theorem stepE_big {xs : List Int} {r : Int} (h : (xs.length : Int) ≤ r) : stepE xs r = 2 := by rw [stepE, if_pos (Or.inr h)]
theorem stepE_in {xs : List Int} {k : Nat} (h : k < xs.length) : stepE xs (k : Int) = if canS xs k then 0 else 20 := by
  rw [stepE, if_neg (by omega)]; rfl
end Go.Proofs.YtkbfmogjhjdjmaaDoor.Cl
/- Moves and Move of the program. -/
namespace Go.Proofs.YtkbfmogjhjdjmaaDoor.Cl
open Go.RowKit
/-- the rings that can be moved -/
def movesS (xs : List Int) : List Int := if chk xs = 0 then ((List.range xs.length).filter (canS xs)).map (fun (k : Nat) => (k : Int)) else []
def mvK (xs : List Int) (k : Nat) : List Int := ((List.range k).filter (canS xs)).map (fun (k : Nat) => (k : Int))
theorem mvK_yes {xs : List Int} {k : Nat} (h : canS xs k = true) : mvK xs (k + 1) = mvK xs k ++ [(k : Int)] := by simp [mvK, List.range_succ, h]
theorem mvK_no {xs : List Int} {k : Nat} (h : canS xs k = false) : mvK xs (k + 1) = mvK xs k := by simp [mvK, List.range_succ, h]
theorem mvK_le (xs : List Int) (k : Nat) : (mvK xs k).length ≤ k := by
  unfold mvK; rw [List.length_map]; have := List.length_filter_le (canS xs) (List.range k); simpa using this
theorem doesS_no {xs : List Int} {k : Nat} (h : canS xs k = false) : doesS xs k = 0 := by simp [doesS, h]
theorem doesS_yes {xs : List Int} {k : Nat} (h : canS xs k = true) : (doesS xs k != 0) = true := by
  simp only [doesS, h]; by_cases h1 : xs[k]? = some 1 <;> simp [h1]
theorem RetL_own {w w' : World} {base : Nat} {v : Value} {xs : List Int} {er : Int} (h : OwnI w' base v xs) (hl : xs.length ≤ 65536) (hb : Below w.heap.size w w') : RetL xs er w (.returned (.tuple #[v, .int .i64 er])) w' := by
  obtain ⟨A, c, rfl, hr⟩ := h.reads
  exact ⟨A, _, c, rfl, hr, hl, hb⟩
end Go.Proofs.YtkbfmogjhjdjmaaDoor.Cl
/- Next, Farthest and Times of the program. -/
namespace Go.Proofs.YtkbfmogjhjdjmaaDoor.Cl
open Go.RowKit
def nextS (a b : Nat) : Nat := if a < b then tz (a + 1) else tz a
def nextE (xs ys : List Int) : Int := if bothE xs ys ≠ 0 then bothE xs ys else if numS xs = numS ys then 12 else 0
theorem nextE_bad {xs ys : List Int} (h : bothE xs ys ≠ 0) : nextE xs ys = bothE xs ys := by rw [nextE, if_pos h]
theorem nextE_same {xs ys : List Int} (h : bothE xs ys = 0) (h2 : numS xs = numS ys) : nextE xs ys = 12 := by rw [nextE, if_neg (by simp [h]), if_pos h2]
theorem nextE_ok {xs ys : List Int} (h : bothE xs ys = 0) (h2 : numS xs ≠ numS ys) : nextE xs ys = 0 := by rw [nextE, if_neg (by simp [h]), if_neg h2]
theorem distS_ne {a b : Nat} (h : a ≠ b) : ((distS a b : Int) == 0) = false := by unfold distS; simp; omega
end Go.Proofs.YtkbfmogjhjdjmaaDoor.Cl
/- Way of the program. -/
namespace Go.Proofs.YtkbfmogjhjdjmaaDoor.Cl
open Go.RowKit
def stepTo (a b : Nat) : Nat := if a < b then a + 1 else a - 1
/-- the place after some moves -/
def posS (a b j : Nat) : Nat := if a < b then a + j else a - j
/-- the rings of a way -/
def wayN (a b : Nat) : List Int := (List.range (distS a b)).map fun j => (nextS (posS a b j) b : Int)
def wayE (xs ys : List Int) : Int := if bothE xs ys ≠ 0 then bothE xs ys else if 1000 < distS (numS xs) (numS ys) then 3 else 0
def wayL (xs ys : List Int) : List Int := if wayE xs ys = 0 then wayN (numS xs) (numS ys) else []
theorem wayN_length (a b : Nat) : (wayN a b).length = distS a b := by simp [wayN]
theorem wayN_take {a b j : Nat} (h : j < distS a b) : (wayN a b).take (j + 1) = (wayN a b).take j ++ [(nextS (posS a b j) b : Int)] := by
  rw [List.take_add_one]; simp [wayN, h]
theorem posS_zero (a b : Nat) : posS a b 0 = a := by unfold posS; split <;> omega
theorem posS_succ {a b j : Nat} (h : j < distS a b) : posS a b (j + 1) = stepTo (posS a b j) b := by
  unfold distS at h
  unfold posS stepTo
  by_cases hab : a < b
  · simp only [hab, if_true]; rw [if_pos (by omega)]; omega
  · simp only [hab, if_false]; rw [if_neg (by omega)]; omega
theorem posS_dist {a b j : Nat} (h : j ≤ distS a b) : distS (posS a b j) b = distS a b - j := by
  unfold distS at h
  unfold posS distS
  split <;> omega
theorem posS_lt {a b j : Nat} (ha : a < 65536) (hb : b < 65536) (h : j ≤ distS a b) : posS a b j < 65536 := by
  unfold distS at h
  unfold posS
  split <;> omega
theorem step_any (n : Int) (a b : Nat) (hab : a ≠ b) (ha : a < 65536) (hb : b < 65536) (w : World) (hT : Tab w) :
    Calls Tryd.prog 73 #[.agg (walkC n a b)] w fun e w' => e = .returned (.tuple #[.int .i64 (nextS a b), .agg (walkC n (stepTo a b) b)]) ∧ Below w.heap.size w w' := by
  unfold nextS stepTo
  by_cases h : a < b
  · rw [if_pos h, if_pos h]; exact step_up n a b h hb w hT
  · rw [if_neg h, if_neg h]; exact step_down n a b (by omega) ha w hT
theorem size_walk (n : Int) (a b : Nat) (ha : a < 65536) (hb : b < 65536) (w : World) :
    Calls Tryd.prog 72 #[.agg (walkC n a b)] w fun e w' => e = .returned (.int .i64 (distS a b : Nat)) ∧ Below w.heap.size w w' := size_any n a b ha hb w
theorem info_walk3 : (Tryd.prog.info? 124).map (·.size) = some 3 := by kernel_rfl
theorem execOp_load_walk (ρ : Operand → Value) (dst : Option Tmp) (x : Operand) (ty : TypeId) (pos : String) (after : Array Edge) (guard : Option (Nat × Bool)) :
    execOp ρ { dst, op := .load 124 x, type := ty, pos, after, guard } = (do pure (.value (← loadAgg 124 (ρ x)))) := rfl
theorem run_load_walk (w : World) (g : Nat) : (loadAgg 124 (.pointer (some ⟨g, 0, none⟩))).run Tryd.prog w = match aggAt 124 3 w g with | some cs => .ok (.agg cs) w | none => aggStuck Tryd.prog 124 w g :=
  run_loadAgg Tryd.underlying124 rfl info_walk3 w g
theorem walkAt_of {w : World} {g : Nat} {n a b : Int} (h : Blk w g 124 (walkC n a b)) : aggAt 124 3 w g = some (walkC n a b) := aggAt_of h rfl
abbrev wayS (w : World) (g6 g10 : Nat) (cs10 : Array Value) (w' : World) : Prop :=
  aggAt 124 3 w' g10 = some cs10 ∧ (∃ cs, Blk w' g6 124 cs ∧ cs.size = 3) ∧ Blk w' g10 124 cs10 ∧ Below w.heap.size w w'
theorem wayS_of {w w' : World} {g6 g10 : Nat} {cs10 : Array Value} (hs : cs10.size = 3) (h6 : ∃ cs, Blk w' g6 124 cs ∧ cs.size = 3) (h10 : Blk w' g10 124 cs10) (hb : Below w.heap.size w w') : wayS w g6 g10 cs10 w' :=
  ⟨aggAt_of h10 hs, h6, h10, hb⟩
theorem wayS_alloc {w w0 : World} {g6 g10 : Nat} {cs10 : Array Value} (hs : cs10.size = 3) (h : wayS w g6 g10 cs10 w0) (o : Obj) : wayS w g6 g10 cs10 (w0.alloc o) := by
  obtain ⟨_, ⟨cs, h6, h3⟩, h10, hb⟩ := h
  exact wayS_of hs ⟨cs, h6.alloc o, h3⟩ (h10.alloc o) (hb.alloc hb.size o)
theorem wayS_push {w w0 w' : World} {g6 g10 : Nat} {cs10 : Array Value} (hs : cs10.size = 3) (h : wayS w g6 g10 cs10 w0) {base : Nat} {v : Value} {xs : List Int} (hown : OwnI w0 base v xs) (hbase : w.heap.size ≤ base) (hg : w0.grownBy w' v.ownBlock) : wayS w g6 g10 cs10 w' := by
  obtain ⟨_, ⟨cs, h6, h3⟩, h10, hb⟩ := h
  exact wayS_of hs ⟨cs, h6.grown hg (fun e => hown.blk_ne h6 (by decide) e.symm), h3⟩ (h10.grown hg (fun e => hown.blk_ne h10 (by decide) e.symm)) (hb.grown hg hb.size (fun k hk => Nat.le_trans hbase (hown.ge hk)))
theorem wayS_store {w w0 : World} {g6 g10 : Nat} {cs10 : Array Value} (hs : cs10.size = 3) (h : wayS w g6 g10 cs10 w0) (hne : g10 ≠ g6) (hge : w.heap.size ≤ g6) (i : Nat) (u : Value) : wayS w g6 g10 cs10 (w0.setCell ⟨g6, i, none⟩ u) := by
  obtain ⟨_, ⟨cs, h6, h3⟩, h10, hb⟩ := h
  exact wayS_of hs ⟨_, h6.set_ i u, by simpa using h3⟩ (h10.far hne _) (hb.setCell hge _)
theorem wayS_cells {w w0 : World} {g6 g10 : Nat} {cs10 : Array Value} (h : wayS w g6 g10 cs10 w0) : ∃ v0 v1 v2, Blk w0 g6 124 #[v0, v1, v2] ∧ w0.cell? ⟨g6, 0, none⟩ = some v0 ∧ w0.cell? ⟨g6, 1, none⟩ = some v1 ∧ w0.cell? ⟨g6, 2, none⟩ = some v2 ∧
    w0.frozen? ⟨g6, 0, none⟩ = false ∧ w0.frozen? ⟨g6, 1, none⟩ = false ∧ w0.frozen? ⟨g6, 2, none⟩ = false := by
  obtain ⟨_, ⟨cs, h4, hs⟩, _⟩ := h
  obtain ⟨l⟩ := cs
  match l, hs with
  | [v0, v1, v2], _ => exact ⟨v0, v1, v2, h4, by rw [h4.cell]; rfl, by rw [h4.cell]; rfl, by rw [h4.cell]; rfl, h4.frozen _, h4.frozen _, h4.frozen _⟩
section
attribute [local go_sem ↓] execOp_load_walk
attribute [local go_sem] run_load_walk
set_option maxRecDepth 100000 in
set_option maxHeartbeats 4000000 in
theorem Way_ok (A B : Option Addr) (n c d : Nat) (xs ys : List Int) (w : World) (ha : RInts w w.heap.size A n xs) (hb : RInts w w.heap.size B n ys) (hn : n ≤ maxLen) (hT : Tab w) (hx : chk xs = 0) (hy : chk ys = 0) (k1 : numS xs < 65536) (k2 : numS ys < 65536) (hd : distS (numS xs) (numS ys) ≤ 1000) :
    Calls Tryd.prog 64 #[.slice A n c, .slice B n d] w (RetL (wayN (numS xs) (numS ys)) 0 w) := by
  have hX := Lib.hid hx
  have hY := Lib.hid hy
  clear hx hy
  obtain ⟨a, hA⟩ : ∃ a, numS xs = a := ⟨_, rfl⟩
  obtain ⟨b, hB⟩ : ∃ b, numS ys = b := ⟨_, rfl⟩
  rw [hA, hB] at hd ⊢
  rw [hA] at k1
  rw [hB] at k2
  have hAA := Lib.hid hA
  have hBB := Lib.hid hB
  clear hA hB
  go_enter Tryd.func64, Tryd.ntmps64
  go_wp2_with (first
    | (go_at_call 71
       refine (walked_ok A B n c d xs ys w ha hb hn hX.out hY.out).mono ?_
       rintro e w1 ⟨rfl, hb1⟩
       rw [hAA.out, hBB.out])
    | (with_reducible show wpList _ _ _ (⟨some 6, .alloc 124, _, _, _, _⟩ :: _) _ _
       refine wpList_alloc_blk rfl 124 rfl _ zero_walk ?_
       intro w2 g6 hB2 hg2 hs2
       have hb2 := below_none hb1 hg2 hb1.size)
    | (with_reducible show wpList _ _ _ (⟨_, .store 124 (.tmp 6) (.tmp 15), _, _, _, _⟩ :: _) _ _
       refine wpList_store_blk rfl 124 _ _ rfl g6 (walkC n a b) rfl rfl 124 (walkC 0 0 0) hB2 (info_walk _ _ _) rfl (walkC_one _ _ _) ?_
       intro w3 hB3 hg3
       have hgg : w.heap.size ≤ g6 := by have := hb1.size; omega
       have hb3 := below_some hb2 hg3 hb2.size hgg
       have hl3 := walkAt_of hB3)
    | (go_at_call 72
       have _t := hl3
       refine (size_walk n a b k1 k2 _).mono ?_
       rintro e w4 ⟨rfl, hb4⟩
       have hB4 := hB3.callee hb4
       have hbe4 := hb3.trans (hb4.mono hb3.size)
       clear hl3))
  clear hb1 hb2 hB2 hg2 hs2 hb3 hg3 hB3 hb4
  have hpos0 := posS_zero a b
  have HP0 := Lib.hid hpos0
  clear hpos0
  go_loopg [8] (distS a b) (fun q v wr => ∃ j : Nat, j ≤ distS a b ∧ Hid (q = distS a b - j) ∧ OwnI wr w.heap.size v ((wayN a b).take j) ∧ Blk wr g6 124 (walkC n (posS a b j) b) ∧ Below w.heap.size w wr)
  case atStart => exact ⟨0, by omega, Lib.hid (by omega), OwnI.nil _ _, by rw [HP0.out]; exact hB4, hbe4⟩
  case round =>
    clear hB4 hbe4
    obtain ⟨j, hj, hq, hown, hB3, hb3⟩ := hrel
    have hl3 := walkAt_of hB3
    have kp := posS_lt k1 k2 hj
    have hPD := Lib.hid (posS_dist hj)
    by_cases hlt : j < distS a b
    · have hPS := Lib.hid (posS_succ hlt)
      have hWT := Lib.hid (wayN_take hlt)
      have hlen : ((wayN a b).take j).length ≤ 1000000000 := by rw [List.length_take, wayN_length]; omega
      have hne := Lib.hid (show posS a b j ≠ b by intro e; have := hPD.out; rw [e] at this; unfold distS at this hlt; omega)
      obtain ⟨p, hp⟩ : ∃ p, posS a b j = p := ⟨_, rfl⟩
      rw [hp] at kp hPD hPS hWT hne hB3 hl3
      have hPP := Lib.hid hp
      clear hp
      obtain ⟨zs, hz⟩ : ∃ zs, (wayN a b).take j = zs := ⟨_, rfl⟩
      rw [hz] at hWT hlen hown
      clear hz
      go_wp2_with (first
        | (go_at_call 72
           have _t := hl3
           refine (size_walk n p b kp k2 _).mono ?_
           rintro e w4 ⟨rfl, hb4⟩
           rw [hPD.out]
           have hB4 := hB3.callee hb4
           have hown4 := hown.callee hb4
           have hbe4 := hb3.trans (hb4.mono hb3.size)
           have hl4 := walkAt_of hB4
           clear hl3 hB3 hown hb3 hb4)
        | (go_at_call 73
           have _t := hl4
           refine (step_any n p b hne.out kp k2 _ (hT.later hbe4)).mono ?_
           rintro e w5 ⟨rfl, hb5⟩
           have hB5 := hB4.callee hb5
           have hown5 := hown4.callee hb5
           have hbe5 := hbe4.trans (hb5.mono hbe4.size)
           clear hl4 hB4 hown4 hbe4 hb5)
        | (with_reducible show wpList _ _ _ (⟨some 10, .alloc 124, _, _, _, _⟩ :: _) _ _
           refine wpList_alloc_blk rfl 124 rfl _ zero_walk ?_
           intro w6 g10 hB6 hg6 hs6
           have hB66 := hB5.none_ hg6
           have hown6 := hown5.none_ hg6
           have hbe6 := below_none hbe5 hg6 hbe5.size
           have hne10 : g10 ≠ g6 := by have := hB5.lt; omega
           have hge10 : w.heap.size ≤ g10 := by have := hbe5.size; omega
           clear hg6 hB5 hown5 hbe5)
        | (with_reducible show wpList _ _ _ (⟨_, .store 124 (.tmp 10) (.tmp 32), _, _, _, _⟩ :: _) _ _
           refine wpList_store_blk rfl 124 _ _ rfl g10 (walkC n (stepTo p b) b) rfl rfl 124 (walkC 0 0 0) hB6 (info_walk _ _ _) rfl (walkC_one _ _ _) ?_
           intro w7 hB7 hg7
           have hB67 := hB66.some_ hg7 hne10.symm
           have hown7 := hown6.some_ hg7 (hown6.blk_ne hB6 (by decide))
           have hbe7 := below_some hbe6 hg7 hbe6.size hge10
           clear hg7 hB66 hown6 hbe6 hB6))
      go_region_held3 (fun w' => aggAt 124 3 w' g10 = some #[.int .i64 (n : Int), .int .i64 (stepTo p b : Nat), .int .i64 (b : Int)] ∧ (∃ cs, Blk w' g6 124 cs ∧ cs.size = 3) ∧ Blk w' g10 124 #[.int .i64 (n : Int), .int .i64 (stepTo p b : Nat), .int .i64 (b : Int)] ∧ Below w.heap.size w w')
        (first | assumption | exact wayS_of rfl ⟨_, hB67, rfl⟩ hB7 hbe7.drew | exact wayS_alloc rfl (by assumption) _ | exact wayS_push rfl (by assumption) (hown7.drew.none_ (World.grownBy_alloc w7.drew _ none)) (Nat.le_refl _) (by assumption) | exact wayS_store rfl (wayS_store rfl (wayS_store rfl (by assumption) hne10 hgg _ _) hne10 hgg _ _) hne10 hgg _ _)
        (first | (refine step_push rfl _ _ rfl rfl (hown7.drew.none_ (World.grownBy_alloc w7.drew _ none)) w7.heap.size 1 (nextS p b) rfl (Blk.new w7.drew _ _) hlen (by have := hbe7.size; show _ ≤ (w7.drew.heap.push _).size; simp; omega) ?_; intro g5 cap5 w8 hown8 hg8 hat8 hlt8; have hS8 := wayS_push rfl (by assumption) (hown7.drew.none_ (World.grownBy_alloc w7.drew _ none)) (Nat.le_refl _) hg8; obtain ⟨v0, v1, v2, hB8, q0, q1, q2, f0, f1, f2⟩ := wayS_cells hS8))
      obtain ⟨_, _, _, hbe8⟩ := hS8
      have hBf : Blk (((w8.setCell ⟨g6, 0, none⟩ (.int .i64 (n : Int))).setCell ⟨g6, 1, none⟩ (.int .i64 (stepTo p b : Nat))).setCell ⟨g6, 2, none⟩ (.int .i64 (b : Int))) g6 124 (walkC n (stepTo p b) b) := ((hB8.set_ 0 _).set_ 1 _).set_ 2 _
      have hn8 : (Value.slice (some ⟨g5, 0, none⟩) (zs.length + 1) cap5).ownBlock ≠ some g6 := hown8.blk_ne hB8 (by decide)
      have hownf := ((hown8.set_ (p := ⟨g6, 0, none⟩) hn8 (.int .i64 (n : Int))).set_ (p := ⟨g6, 1, none⟩) hn8 (.int .i64 (stepTo p b : Nat))).set_ (p := ⟨g6, 2, none⟩) hn8 (.int .i64 (b : Int))
      have hbef := ((hbe8.setCell (p := ⟨g6, 0, none⟩) hgg (.int .i64 (n : Int))).setCell (p := ⟨g6, 1, none⟩) hgg (.int .i64 (stepTo p b : Nat))).setCell (p := ⟨g6, 2, none⟩) hgg (.int .i64 (b : Int))
      clear hown8 hB8 hbe8 q0 q1 q2 f0 f1 f2
      go_wp2_with (fail)
      go_roundg (distS a b - (j + 1))
      case rel => exact ⟨j + 1, by omega, Lib.hid rfl, by rw [hWT.out]; exact hownf, by rw [hPS.out]; exact hBf, hbef⟩
      case measure => rw [hq.out]; omega
    · go_wp2_with (first
        | (go_at_call 72
           have _t := hl3
           refine (size_walk n (posS a b j) b kp k2 _).mono ?_
           rintro e w4 ⟨rfl, hb4⟩
           rw [hPD.out]
           have hown4 := hown.callee hb4
           have hbe4 := hb3.trans (hb4.mono hb3.size)
           clear hl3 hown hb3 hb4))
      go_ret2
      have hjj : (wayN a b).take j = wayN a b := List.take_of_length_le (by rw [wayN_length]; omega)
      rw [hjj] at hown4
      exact RetL_own hown4 (by rw [wayN_length]; omega) hbe4
end
theorem wayE_bad {xs ys : List Int} (h : bothE xs ys ≠ 0) : wayE xs ys = bothE xs ys := by rw [wayE, if_pos h]
set_option maxRecDepth 100000 in
set_option maxHeartbeats 2000000 in
theorem Way_any (A B : Option Addr) (n m c d : Nat) (xs ys : List Int) (w : World) (ha : RInts w w.heap.size A n xs) (hb : RInts w w.heap.size B m ys) (hn : n ≤ maxLen) (hm : m ≤ maxLen) (hT : Tab w) :
    Calls Tryd.prog 64 #[.slice A n c, .slice B m d] w (RetL (wayL xs ys) (wayE xs ys) w) := by
  by_cases he : bothE xs ys = 0
  · obtain ⟨rfl, hx, hy, l1, l2, h16, _, _⟩ := walked_pre ha hb he
    have k1 : numS xs < 65536 := by omega
    have k2 : numS ys < 65536 := by omega
    by_cases hd : distS (numS xs) (numS ys) ≤ 1000
    · have h0 : wayE xs ys = 0 := by rw [wayE, if_neg (by simp [he]), if_neg (by omega)]
      rw [h0, wayL, if_pos h0]
      exact Way_ok A B n c d xs ys w ha hb hn hT hx hy k1 k2 hd
    · have h0 : wayE xs ys = 3 := by rw [wayE, if_neg (by simp [he]), if_pos (by omega)]
      rw [h0, wayL, if_neg (by rw [h0]; decide)]
      have hX := Lib.hid hx
      have hY := Lib.hid hy
      clear hx hy l1 l2 h16 h0 he
      go_enter Tryd.func64, Tryd.ntmps64
      go_wp2_with (first
        | (go_at_call 71; refine (walked_ok A B n c d xs ys w ha hb hn hX.out hY.out).mono ?_; rintro e w1 ⟨rfl, hb1⟩; unfold walkC)
        | (go_at_call 72; refine (size_any _ _ _ k1 k2 _).mono ?_; rintro e w2 ⟨rfl, hb2⟩))
      go_ret2
      exact RetL_nil ((hb1.alloc hb1.size _).trans (hb2.mono (by simp; have := hb1.size; omega)))
  · have hE := Lib.hid he
    have hbb : (bothE xs ys != 0) = true := by simpa using he
    rw [wayL, wayE_bad he, if_neg he]
    clear he
    go_enter Tryd.func64, Tryd.ntmps64
    go_wp2_with (first
      | (go_at_call 71; refine (walked_bad A B n m c d xs ys w ha hb hn hm hE.out).mono ?_; rintro e w1 ⟨rfl, hb1⟩; unfold walkC))
    go_ret2
    exact RetL_nil (hb1.alloc hb1.size _)
end Go.Proofs.YtkbfmogjhjdjmaaDoor.Cl
