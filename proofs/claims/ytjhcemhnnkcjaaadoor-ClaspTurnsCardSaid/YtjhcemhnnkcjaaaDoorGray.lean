/- The number of a position as the program reckons it: by exclusive or's. Plain numbers: no program in sight. -/
import Derived.Test.YtjhcemhnnkcjaaaDoorNum
import Derived.Test.YtjhcemhnnkcjaaaDoorBits
namespace Go.Proofs.YtjhcemhnnkcjaaaDoor

/-- the binary number of some rings -/
def binS : List Bool → Nat
  | [] => 0
  | b :: bs => (if b then 1 else 0) + 2 * binS bs
theorem binS_lt (b : List Bool) : binS b < 2 ^ b.length := by
  induction b with
  | nil => simp [binS]
  | cons x b ih => simp only [binS, List.length_cons, Nat.pow_succ]; split <;> omega
theorem binS_snoc (b : List Bool) (x : Bool) : binS (b ++ [x]) = binS b + (if x then 2 ^ b.length else 0) := by
  induction b with
  | nil => cases x <;> simp [binS]
  | cons y b ih =>
    simp only [List.cons_append, binS, ih, List.length_cons, Nat.pow_succ]
    cases x <;> simp <;> omega
theorem binS_or (b : List Bool) : binS b ||| 2 ^ b.length = binS b + 2 ^ b.length := by
  have h := Nat.two_pow_add_eq_or_of_lt (binS_lt b) 1
  rw [Nat.mul_one] at h
  rw [Nat.or_comm, ← h, Nat.add_comm]
theorem binS_bit (b : List Bool) (k : Nat) : (binS b).testBit k = b[k]?.getD false := by
  induction b generalizing k with
  | nil => simp [binS]
  | cons x b ih =>
    cases k with
    | zero => simp only [binS, Nat.testBit_zero, List.getElem?_cons_zero, Option.getD_some]; cases x <;> simp <;> omega
    | succ k =>
      rw [Nat.testBit_succ, show binS (x :: b) / 2 = binS b by simp only [binS]; split <;> omega, ih]
      simp

theorem or_step {b : List Bool} {k : Nat} (hk : k < 16) (hx : b[k]? = some true) : bits .or .i64 (binS (b.take k) : Nat) (RowKit.wrap64 (2 ^ k)) = ((binS (b.take (k + 1)) : Nat) : Int) := by
  have hl : (b.take k).length = k := by
    rw [List.length_take]
    have : k < b.length := (List.getElem?_eq_some_iff.1 hx).1
    omega
  have h1 := binS_lt (b.take k)
  rw [hl] at h1
  have h2 := pow_small (k := k) (by omega)
  rw [wrap64_pow (by omega), i64_or_nat _ _ (by omega) (by omega)]
  have h3 := binS_or (b.take k)
  rw [hl] at h3
  rw [h3, List.take_add_one, hx, Option.toList_some, binS_snoc, hl]
  simp
theorem no_step {b : List Bool} {k : Nat} (hx : b[k]? = some false) : binS (b.take (k + 1)) = binS (b.take k) := by
  rw [List.take_add_one, hx, Option.toList_some, binS_snoc]; simp

/-- the parity of so many bits -/
def px : Nat → (Nat → Bool) → Nat → Bool
  | 0, _, _ => false
  | k + 1, f, j => (f j ^^ px k f (j + 1))
theorem px_add (a b : Nat) (f : Nat → Bool) (j : Nat) : px (a + b) f j = (px a f j ^^ px b f (j + a)) := by
  induction a generalizing j with
  | zero => simp [px]
  | succ a ih => rw [Nat.succ_add, px, px, ih, Bool.xor_assoc, Nat.add_assoc, Nat.add_comm 1 a]
theorem px_shift (k : Nat) (f : Nat → Bool) (j : Nat) : px k f (j + 1) = px k (fun i => f (i + 1)) j := by
  induction k generalizing j with
  | zero => rfl
  | succ k ih => rw [px, px, ih]
theorem numS_bit (xs : List Int) (hb : bin xs) (f : Nat → Bool) (hf : ∀ k, f k = (xs[k]? == some 1)) (j m : Nat) (hm : xs.length ≤ j + m) : (numS xs).testBit j = px m f j := by
  induction xs generalizing f j m with
  | nil =>
    have h0 : ∀ k, f k = false := fun k => by rw [hf]; simp
    have : ∀ m j, px m f j = false := fun m => by
      induction m with
      | zero => intro j; rfl
      | succ m ih => intro j; rw [px, h0, ih]; rfl
    rw [this]; simp [numS]
  | cons x xs ih =>
    obtain ⟨hx, hb'⟩ := bin_cons hb
    have hf' : ∀ k, (fun i => f (i + 1)) k = (xs[k]? == some 1) := fun k => by show f (k + 1) = _; rw [hf]; simp
    cases j with
    | succ j =>
      rw [Nat.testBit_succ, show numS (x :: xs) / 2 = numS xs by simp only [numS]; omega, px_shift]
      exact ih hb' _ hf' j m (by simp at hm; omega)
    | zero =>
      cases m with
      | zero => simp at hm
      | succ m =>
        rw [px, px_shift, ← ih hb' _ hf' 0 m (by simp at hm; omega), hf 0]
        simp only [numS, Nat.testBit_zero, List.getElem?_cons_zero]
        rcases hx with rfl | rfl
        · rcases Nat.mod_two_eq_zero_or_one (numS xs) with e | e <;> simp [e] <;> omega
        · rcases Nat.mod_two_eq_zero_or_one (numS xs) with e | e <;> simp [e] <;> omega

/-- the number as the program reckons it, after so many rounds -/
def gx : Nat → Nat → Nat
  | 0, n => n
  | j + 1, n => gx j n ^^^ gx j n / 2 ^ 2 ^ j
theorem gx_bit (j n : Nat) (i : Nat) : (gx j n).testBit i = px (2 ^ j) n.testBit i := by
  induction j generalizing i with
  | zero => simp [gx, px]
  | succ j ih =>
    rw [gx, Nat.testBit_xor, Nat.testBit_div_two_pow, ih, ih, ← px_add]
    congr 1
    rw [Nat.pow_succ]; omega
theorem gx_lt (j n : Nat) (h : n < 65536) : gx j n < 65536 := by
  induction j with
  | zero => exact h
  | succ j ih =>
    rw [gx]
    exact Nat.xor_lt_two_pow (n := 16) ih (Nat.lt_of_le_of_lt (Nat.div_le_self _ _) ih)
theorem xor_step (j n : Nat) (h : n < 65536) : bits .xor .i64 (gx j n : Nat) ((gx j n : Nat) / ((2 ^ 2 ^ j : Nat) : Int)) = ((gx (j + 1) n : Nat) : Int) := by
  have h1 := gx_lt j n h
  have h2 : gx j n / 2 ^ 2 ^ j ≤ gx j n := Nat.div_le_self _ _
  rw [← Int.natCast_ediv, i64_xor_nat _ _ (by omega) (by omega), gx]
theorem numS_pad (xs : List Int) (hb : bin xs) (hl : xs.length ≤ 16) : gx 4 (binS (pad xs)) = numS xs := by
  apply Nat.eq_of_testBit_eq
  intro i
  rw [gx_bit, numS_bit xs hb _ (fun k => ?_) i (2 ^ 4) (by simp; omega)]
  rw [binS_bit]
  simp only [pad, List.getElem?_map]
  by_cases hk : k < 16
  · simp [List.getElem?_range hk]
  · have h1 : xs[k]? = none := List.getElem?_eq_none (by omega)
    have h2 : (List.range 16)[k]? = none := List.getElem?_eq_none (by simp; omega)
    simp [h1, h2]
/-- the binary digits of a position's number -/
theorem gray_bit (n k : Nat) : (n ^^^ n / 2) / 2 ^ k % 2 = (n / 2 ^ k + n / 2 ^ (k + 1)) % 2 := by
  have h := Nat.testBit_xor (x := n) (y := n / 2) (i := k)
  have h2 : (n / 2).testBit k = n.testBit (k + 1) := by rw [Nat.testBit_succ]
  rw [h2] at h
  simp only [Nat.testBit_eq_decide_div_mod_eq] at h
  rcases Nat.mod_two_eq_zero_or_one ((n ^^^ n / 2) / 2 ^ k) with e | e <;> rcases Nat.mod_two_eq_zero_or_one (n / 2 ^ k) with e1 | e1 <;> rcases Nat.mod_two_eq_zero_or_one (n / 2 ^ (k + 1)) with e2 | e2 <;> simp [e, e1, e2] at h <;> omega
/-- as the program asks for a digit -/
theorem gray_go {n k : Nat} (h : n < 65536) : (bits .and .i64 (bits .xor .i64 (n : Int) ((n : Int) / 2) / 2 ^ k) 1 == 1) = ((((n ^^^ n / 2) / 2 ^ k % 2 : Nat) : Int) == 1) := by
  have h1 : n / 2 < 65536 := by omega
  have h2 : n ^^^ n / 2 < 65536 := Nat.xor_lt_two_pow (n := 16) h h1
  have h3 : (n ^^^ n / 2) / 2 ^ k ≤ n ^^^ n / 2 := Nat.div_le_self _ _
  rw [show (n : Int) / 2 = ((n / 2 : Nat) : Int) by omega, i64_xor_nat _ _ (by omega) (by omega), show (2 : Int) ^ k = ((2 ^ k : Nat) : Int) by simp, ← Int.natCast_ediv]
  rw [show (1 : Int) = ((1 : Nat) : Int) by rfl, i64_and_nat _ _ (by omega) (by omega), Nat.and_one_is_mod]
end Go.Proofs.YtjhcemhnnkcjaaaDoor
