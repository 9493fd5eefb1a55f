/- Plain: orders by numbers, the notes at the bits, the first customer at the highest; how many good ones are smaller. -/
import Derived.Test.YtfcfhiekkpflcaaDoorNumber
import Derived.Test.YtfcfhiekkpflcaaDoorPlainA
import Derived.Test.YtfcfhiekkpflcaaDoorPairs
namespace Go.Proofs.YtfcfhiekkpflcaaDoor
open Go.RowKit
/-- how many numbers below x have a property -/
def cntP (p : Nat → Bool) : Nat → Nat
  | 0 => 0
  | x + 1 => cntP p x + if p x then 1 else 0
theorem cntP_congr {p q : Nat → Bool} : ∀ {x : Nat}, (∀ y, y < x → p y = q y) → cntP p x = cntP q x := by
  intro x
  induction x with
  | zero => intro _; rfl
  | succ x ih => intro h; rw [cntP, cntP, ih fun y hy => h y (by omega), h x (by omega)]
theorem cntP_add (p : Nat → Bool) (a : Nat) : ∀ b, cntP p (a + b) = cntP p a + cntP (fun y => p (a + y)) b := by
  intro b
  induction b with
  | zero => rfl
  | succ b ih => rw [← Nat.add_assoc, cntP, ih, cntP]; omega
theorem cntP_none {p : Nat → Bool} : ∀ {x : Nat}, (∀ y, y < x → p y = false) → cntP p x = 0 := by
  intro x
  induction x with
  | zero => intro _; rfl
  | succ x ih => intro h; rw [cntP, ih fun y hy => h y (by omega), h x (by omega)]; rfl
theorem cntP_le (p : Nat → Bool) : ∀ x, cntP p x ≤ x := by
  intro x
  induction x with
  | zero => exact Nat.le_refl _
  | succ x ih => rw [cntP]; split <;> omega
theorem cntP_mono (p : Nat → Bool) {x y : Nat} (h : x ≤ y) : cntP p x ≤ cntP p y := by
  obtain ⟨d, rfl⟩ : ∃ d, y = x + d := ⟨y - x, by omega⟩
  rw [cntP_add]
  omega
/-- the order of n customers whose notes are the bits of x -/
def spW : Nat → Nat → Word
  | 0, _ => []
  | n + 1, x => (if x / 2 ^ n % 2 = 1 then 110 else 99) :: spW n x
theorem spW_len : ∀ n x, (spW n x).length = n := by
  intro n
  induction n with
  | zero => intro x; rfl
  | succ n ih => intro x; rw [spW, List.length_cons, ih]
theorem spW_ok : ∀ n x, okT (spW n x) = true := by
  intro n
  induction n with
  | zero => intro x; rfl
  | succ n ih =>
    intro x
    have := ih x
    unfold okT at this ⊢
    rw [spW, List.all_cons, this]
    split <;> rfl
theorem spW_mod : ∀ n x y, (∀ i, i < n → x / 2 ^ i % 2 = y / 2 ^ i % 2) → spW n x = spW n y := by
  intro n
  induction n with
  | zero => intro x y _; rfl
  | succ n ih => intro x y h; rw [spW, spW, h n (by omega), ih x y fun i hi => h i (by omega)]
theorem div_high {m i y : Nat} (hi : i < m) : (2 ^ m + y) / 2 ^ i % 2 = y / 2 ^ i % 2 := by
  obtain ⟨d, rfl⟩ : ∃ d, m = i + (d + 1) := ⟨m - i - 1, by omega⟩
  rw [Nat.pow_add, Nat.mul_add_div (Nat.pow_pos (by omega)), Nat.pow_succ]
  omega
theorem spW_low {m x : Nat} (h : x < 2 ^ m) : spW (m + 1) x = 99 :: spW m x := by
  rw [spW, Nat.div_eq_of_lt h]
  rfl
theorem spW_high {m y : Nat} (h : y < 2 ^ m) : spW (m + 1) (2 ^ m + y) = 110 :: spW m y := by
  rw [spW, spW_mod m (2 ^ m + y) y fun i hi => div_high hi]
  have e : (2 ^ m + y) / 2 ^ m = 1 := by
    rw [Nat.add_div_left _ (Nat.pow_pos (by omega)), Nat.div_eq_of_lt h]
  rw [e]
  rfl
theorem spW_inj : ∀ n x y, x < 2 ^ n → y < 2 ^ n → spW n x = spW n y → x = y := by
  intro n
  induction n with
  | zero => intro x y h1 h2 _; simp at h1 h2; omega
  | succ n ih =>
    intro x y h1 h2 h
    rw [Nat.pow_succ] at h1 h2
    rcases Nat.lt_or_ge x (2 ^ n) with hx | hx
    · rcases Nat.lt_or_ge y (2 ^ n) with hy | hy
      · rw [spW_low hx, spW_low hy] at h
        injection h with _ h
        exact ih x y hx hy h
      · obtain ⟨z, rfl⟩ : ∃ z, y = 2 ^ n + z := ⟨y - 2 ^ n, by omega⟩
        rw [spW_low hx, spW_high (by omega)] at h
        injection h with h
        exact absurd h (by decide)
    · obtain ⟨u, rfl⟩ : ∃ z, x = 2 ^ n + z := ⟨x - 2 ^ n, by omega⟩
      rcases Nat.lt_or_ge y (2 ^ n) with hy | hy
      · rw [spW_high (by omega), spW_low hy] at h
        injection h with h
        exact absurd h (by decide)
      · obtain ⟨z, rfl⟩ : ∃ z, y = 2 ^ n + z := ⟨y - 2 ^ n, by omega⟩
        rw [spW_high (by omega), spW_high (by omega)] at h
        injection h with _ h
        rw [ih u z (by omega) (by omega) h]
theorem spW_of : ∀ (l : Word), okT l = true → ∃ x, x < 2 ^ l.length ∧ spW l.length x = l := by
  intro l
  induction l with
  | nil => intro _; exact ⟨0, by simp, rfl⟩
  | cons c l ih =>
    intro h
    have hc := okT_at h (c := c) (by simp)
    obtain ⟨x, h1, h2⟩ := ih (by unfold okT at h ⊢; rw [List.all_cons] at h; simp at h; simpa using h.2)
    have hp : 2 ^ (l.length + 1) = 2 ^ l.length * 2 := Nat.pow_succ ..
    rcases hc with rfl | rfl
    · exact ⟨x, by rw [List.length_cons]; omega, by rw [List.length_cons, spW_low h1, h2]⟩
    · exact ⟨2 ^ l.length + x, by rw [List.length_cons]; omega, by rw [List.length_cons, spW_high h1, h2]⟩
def pcW (n x : Nat) : Nat := (spW n x).count 110
theorem count_both {l : Word} (h : okT l = true) : l.count 99 + l.count 110 = l.length := by
  induction l with
  | nil => rfl
  | cons c l ih =>
    have hc := okT_at h (c := c) (by simp)
    have h2 := ih (by unfold okT at h ⊢; rw [List.all_cons] at h; simp at h; simpa using h.2)
    rcases hc with rfl | rfl
    · rw [List.count_cons_self, List.count_cons_of_ne (by decide), List.length_cons]; omega
    · rw [List.count_cons_self, List.count_cons_of_ne (by decide), List.length_cons]; omega
theorem pc_low {m x : Nat} (h : x < 2 ^ m) : pcW (m + 1) x = pcW m x := by
  unfold pcW
  rw [spW_low h, List.count_cons_of_ne (by decide)]
theorem pc_high {m y : Nat} (h : y < 2 ^ m) : pcW (m + 1) (2 ^ m + y) = pcW m y + 1 := by
  unfold pcW
  rw [spW_high h, List.count_cons_self]
theorem pc_le (m x : Nat) : pcW m x ≤ m := by
  have := List.count_le_length (a := (110 : UInt8)) (l := spW m x)
  rw [spW_len] at this
  exact this
/-- good from b coins -/
def goodB (l : Word) (b : Int) : Bool := decide (∀ x ∈ stepsT b l, 0 ≤ x)
theorem good_iff (l : Word) (b : Int) : goodB l b = true ↔ lacksT l b < 0 := by rw [lacks_iff, goodB, decide_eq_true_iff]
theorem good_cons (c : UInt8) (l : Word) (b : Int) : goodB (c :: l) b = (decide (0 ≤ stp b c) && goodB l (stp b c)) := by
  unfold goodB
  rw [stepsT, Bool.eq_iff_iff]
  simp
/-- how many good orders of m customers and k notes are smaller -/
def gP (m k b x : Nat) : Bool := decide (pcW m x = k) && goodB (spW m x) b
def cG (m k b x : Nat) : Nat := cntP (gP m k b) x
theorem gP_low {m k b x : Nat} (h : x < 2 ^ m) : gP (m + 1) k b x = gP m k (b + 1) x := by
  unfold gP
  rw [pc_low h, spW_low h, good_cons]
  have e : stp (b : Int) 99 = ((b + 1 : Nat) : Int) := by unfold stp; rw [if_pos rfl]; rfl
  rw [e, decide_eq_true (show (0 : Int) ≤ ((b + 1 : Nat) : Int) by omega), Bool.true_and]
theorem gP_high {m k b y : Nat} (h : y < 2 ^ m) : gP (m + 1) k b (2 ^ m + y) = (decide (0 < k ∧ 0 < b) && gP m (k - 1) (b - 1) y) := by
  unfold gP
  rw [pc_high h, spW_high h, good_cons]
  have e : stp (b : Int) 110 = (b : Int) - 1 := by unfold stp; rw [if_neg (by decide)]
  rw [e]
  by_cases hb : 0 < b
  · rw [show (b : Int) - 1 = ((b - 1 : Nat) : Int) by omega, decide_eq_true (show (0 : Int) ≤ ((b - 1 : Nat) : Int) by omega), Bool.true_and]
    by_cases hk : 0 < k
    · rw [decide_eq_true (show 0 < k ∧ 0 < b from ⟨hk, hb⟩), Bool.true_and]
      congr 1
      rw [Bool.eq_iff_iff, decide_eq_true_iff, decide_eq_true_iff]
      omega
    · rw [decide_eq_false (show ¬ (0 < k ∧ 0 < b) by omega), Bool.false_and, decide_eq_false (show ¬ pcW m y + 1 = k by omega), Bool.false_and]
  · rw [decide_eq_false (show ¬ (0 : Int) ≤ (b : Int) - 1 by omega), Bool.false_and, Bool.and_false, decide_eq_false (show ¬ (0 < k ∧ 0 < b) by omega), Bool.false_and]
theorem cG_low {m k b x : Nat} (h : x ≤ 2 ^ m) : cG (m + 1) k b x = cG m k (b + 1) x := cntP_congr fun _ hy => gP_low (by omega)
theorem cG_high {m k b y : Nat} (h : y ≤ 2 ^ m) : cG (m + 1) k b (2 ^ m + y) = cG m k (b + 1) (2 ^ m) + (if 0 < k ∧ 0 < b then cG m (k - 1) (b - 1) y else 0) := by
  unfold cG
  rw [cntP_add]
  congr 1
  · exact cntP_congr fun _ hy => gP_low hy
  · split
    · rename_i h2
      exact cntP_congr fun z hz => by
        show gP (m + 1) k b (2 ^ m + z) = _
        rw [gP_high (by omega), decide_eq_true h2, Bool.true_and]
    · rename_i h2
      exact cntP_none fun z hz => by
        show gP (m + 1) k b (2 ^ m + z) = _
        rw [gP_high (by omega), decide_eq_false h2, Bool.false_and]
/-- all of them -/
theorem cG_all : ∀ m k b, cG m k b (2 ^ m) = if k ≤ m then gdN m (m - k) k b else 0 := by
  intro m
  induction m with
  | zero =>
    intro k b
    rw [show (2 : Nat) ^ 0 = 0 + 1 from rfl, cG, cntP, cntP, gP]
    by_cases hk : k = 0
    · subst hk; rfl
    · rw [if_neg (show ¬ k ≤ 0 by omega), decide_eq_false (show ¬ pcW 0 0 = k from fun e => hk e.symm)]; rfl
  | succ m ih =>
    intro k b
    rw [show 2 ^ (m + 1) = 2 ^ m + 2 ^ m by rw [Nat.pow_succ]; omega, cG_high (Nat.le_refl _), ih, ih]
    by_cases hk : k ≤ m + 1
    · rw [if_pos hk, gdN]
      congr 1
      · by_cases h1 : k ≤ m
        · rw [if_pos h1, if_pos (by omega), show m + 1 - k - 1 = m - k by omega]
        · rw [if_neg h1, if_neg (by omega)]
      · by_cases h1 : 0 < k ∧ 0 < b
        · rw [if_pos h1, if_pos h1, if_pos (by omega), show m - (k - 1) = m + 1 - k by omega]
        · rw [if_neg h1, if_neg h1]
    · rw [if_neg hk, if_neg (by omega)]
      split
      · rw [if_neg (by omega)]
      · rfl
/-- the number of a good order is how many are smaller -/
theorem num_rank : ∀ m k b x : Nat, x < 2 ^ m → gP m k b x = true → numT (spW m x) ((m : Int) - k) k b = (cG m k b x : Nat) := by
  intro m
  induction m with
  | zero =>
    intro k b x hx _
    simp at hx
    subst hx
    rfl
  | succ m ih =>
    intro k b x hx hg
    have hkm : k ≤ m + 1 := by
      unfold gP at hg
      simp only [Bool.and_eq_true, decide_eq_true_eq] at hg
      have := pc_le (m + 1) x
      omega
    rw [Nat.pow_succ] at hx
    rcases Nat.lt_or_ge x (2 ^ m) with h | h
    · rw [gP_low h] at hg
      have := ih k (b + 1) x h hg
      rw [spW_low h, numT, if_pos rfl, cG_low (by omega), ← this]
      congr 1
      omega
    · obtain ⟨y, rfl⟩ : ∃ y, x = 2 ^ m + y := ⟨x - 2 ^ m, by omega⟩
      have hy : y < 2 ^ m := by omega
      rw [gP_high hy] at hg
      simp only [Bool.and_eq_true, decide_eq_true_eq] at hg
      obtain ⟨⟨h1, h2⟩, hg⟩ := hg
      have hi := ih (k - 1) (b - 1) y hy hg
      rw [spW_high hy, numT, if_neg (by decide), cG_high (by omega), if_pos ⟨h1, h2⟩]
      have e2 : numT (spW m y) (((m + 1 : Nat) : Int) - k) ((k : Int) - 1) ((b : Int) - 1) = (cG m (k - 1) (b - 1) y : Nat) := by
        rw [← hi]
        congr 1 <;> omega
      have e1 : balT (((m + 1 : Nat) : Int) - k - 1) k ((b : Int) + 1) = ((if k ≤ m then gdN m (m - k) k (b + 1) else 0 : Nat) : Int) := by
        have := bal_gc (m + 1 - k) k b
        rw [show (((m + 1 - k : Nat) : Int)) = ((m + 1 : Nat) : Int) - k by omega] at this
        rw [this]
        unfold gcN
        by_cases h3 : k ≤ m
        · rw [if_pos (by omega), if_pos h3, show m + 1 - k - 1 = m - k by omega, show m - k + k = m by omega]
        · rw [if_neg (by omega), if_neg h3]
      rw [e1, e2, cG_all]
      exact (Int.natCast_add _ _).symm
theorem rank_lt {m k b x : Nat} (hx : x < 2 ^ m) (hg : gP m k b x = true) : cG m k b x < cG m k b (2 ^ m) := by
  have h := cntP_mono (gP m k b) (show x + 1 ≤ 2 ^ m by omega)
  rw [cntP, hg, if_pos rfl] at h
  show cntP _ _ < cntP _ _
  omega
/-- the order with the number of an order is this order -/
theorem at_rank : ∀ m k b x : Nat, x < 2 ^ m → gP m k b x = true → atN m (m - k) k b (cG m k b x) = spW m x := by
  intro m
  induction m with
  | zero => intro k b x _ _; rfl
  | succ m ih =>
    intro k b x hx hg
    have hkm : k ≤ m + 1 := by
      unfold gP at hg
      simp only [Bool.and_eq_true, decide_eq_true_eq] at hg
      have := pc_le (m + 1) x
      omega
    have hgc : gcN (m + 1 - k) k b = cG m k (b + 1) (2 ^ m) := by
      rw [cG_all]
      unfold gcN
      by_cases h3 : k ≤ m
      · rw [if_pos (by omega), if_pos h3, show m + 1 - k - 1 = m - k by omega, show m - k + k = m by omega]
      · rw [if_neg (by omega), if_neg h3]
    rw [Nat.pow_succ] at hx
    rw [atN, hgc]
    rcases Nat.lt_or_ge x (2 ^ m) with h | h
    · rw [gP_low h] at hg
      rw [cG_low (by omega), if_pos (rank_lt h hg), spW_low h, show m + 1 - k - 1 = m - k by omega, ih k (b + 1) x h hg]
    · obtain ⟨y, rfl⟩ : ∃ y, x = 2 ^ m + y := ⟨x - 2 ^ m, by omega⟩
      have hy : y < 2 ^ m := by omega
      rw [gP_high hy] at hg
      simp only [Bool.and_eq_true, decide_eq_true_eq] at hg
      obtain ⟨⟨h1, h2⟩, hg⟩ := hg
      have ec : cG (m + 1) k b (2 ^ m + y) = cG m k (b + 1) (2 ^ m) + cG m (k - 1) (b - 1) y := by rw [cG_high (by omega), if_pos ⟨h1, h2⟩]
      rw [ec, if_neg (by omega), Nat.add_sub_cancel_left, spW_high hy, show m + 1 - k = m - (k - 1) by omega, ih (k - 1) (b - 1) y hy hg]
theorem gd_pos : ∀ c n b : Nat, n ≤ c + b → 0 < gdN (c + n) c n b := by
  intro c
  induction c with
  | zero =>
    intro n
    induction n with
    | zero => intro b _; exact Nat.one_pos
    | succ n ih =>
      intro b h
      rw [gd_step (by omega), if_neg (by omega), if_pos ⟨by omega, by omega⟩]
      have := ih (b - 1) (by omega)
      rw [Nat.zero_add]
      exact this
  | succ c ih =>
    intro n b h
    rw [gd_step (by omega), if_pos (by omega)]
    have := ih n (b + 1) (by omega)
    rw [show c + 1 - 1 = c by omega]
    omega
theorem good_end {l : Word} {b : Int} (h : goodB l b = true) (hb : 0 ≤ b) : 0 ≤ endT b l := by
  rw [good_iff] at h
  cases hl : l with
  | nil => simpa [endT] using hb
  | cons c m =>
    have := lacks_end h (i := l.length - 1) (by rw [hl]; simp)
    rw [show l.length - 1 + 1 = l.length by rw [hl]; simp, List.take_length] at this
    rw [← hl]
    exact this
theorem end_count (l : Word) : okT l = true → ∀ b : Int, endT b l = b + l.count 99 - l.count 110 := by
  induction l with
  | nil => intro _ b; simp [endT]
  | cons c l ih =>
    intro h b
    have hc := okT_at h (c := c) (by simp)
    have h2 := ih (by unfold okT at h ⊢; rw [List.all_cons] at h; simp at h; simpa using h.2)
    have e : endT b (c :: l) = endT (stp b c) l := rfl
    rw [e, h2]
    rcases hc with rfl | rfl
    · rw [List.count_cons_self, List.count_cons_of_ne (by decide)]
      unfold stp
      rw [if_pos rfl]; omega
    · rw [List.count_cons_self, List.count_cons_of_ne (by decide)]
      unfold stp
      rw [if_neg (by decide)]; omega
/-- the first one is the smallest -/
theorem first_rank : ∀ m k b x : Nat, x < 2 ^ m → gP m k b x = true → cG m k b x = 0 → spW m x = List.replicate (m - k) 99 ++ List.replicate k 110 := by
  intro m
  induction m with
  | zero =>
    intro k b x hx hg _
    simp only [gP, Bool.and_eq_true, decide_eq_true_eq] at hg
    have := pc_le 0 x
    obtain rfl : k = 0 := by omega
    rfl
  | succ m ih =>
    intro k b x hx hg hz
    have hg0 := hg
    have hpc : pcW (m + 1) x = k ∧ goodB (spW (m + 1) x) b = true := by simpa [gP] using hg
    have hkm : k ≤ m + 1 := by have := pc_le (m + 1) x; omega
    rw [Nat.pow_succ] at hx
    rcases Nat.lt_or_ge x (2 ^ m) with h | h
    · rw [gP_low h] at hg
      rw [cG_low (by omega)] at hz
      have hk2 : k ≤ m := by
        simp only [gP, Bool.and_eq_true, decide_eq_true_eq] at hg
        have := pc_le m x
        omega
      rw [spW_low h, ih k (b + 1) x h hg hz, show m + 1 - k = (m - k) + 1 by omega, List.replicate_succ]
      rfl
    · obtain ⟨y, rfl⟩ : ∃ y, x = 2 ^ m + y := ⟨x - 2 ^ m, by omega⟩
      have hy : y < 2 ^ m := by omega
      rw [gP_high hy] at hg
      simp only [Bool.and_eq_true, decide_eq_true_eq] at hg
      obtain ⟨⟨h1, h2⟩, hg⟩ := hg
      rw [cG_high (by omega), if_pos ⟨h1, h2⟩, cG_all] at hz
      have hcnt : (spW (m + 1) (2 ^ m + y)).count 110 = k := hpc.1
      have hen := good_end hpc.2 (by omega)
      have hco := count_both (spW_ok (m + 1) (2 ^ m + y))
      rw [end_count _ (spW_ok _ _), hcnt] at hen
      rw [hcnt, spW_len] at hco
      have hk : k = m + 1 := by
        rcases Nat.lt_or_ge m k with h3 | h3
        · omega
        · rw [if_pos h3] at hz
          have := gd_pos (m - k) k (b + 1) (by omega)
          rw [show m - k + k = m by omega] at this
          omega
      subst hk
      have := ih m (b - 1) y hy (by simpa using hg) (by simpa using (by omega : cG m (m + 1 - 1) (b - 1) y = 0))
      rw [spW_high hy, this, Nat.sub_self, Nat.sub_self]
      rfl
/-- k (notes + 1) = ways to choose -/
theorem catalan (j : Nat) : (chI (2 * j) j - chI (2 * j) ((j : Int) - 0 - 1)) * ((j : Int) + 1) = chI (2 * j) j := by
  cases j with
  | zero => rfl
  | succ j =>
    have h := ch_step (2 * (j + 1)) j
    have e1 : chI (2 * (j + 1)) ((j + 1 : Nat) : Int) = (ch (2 * (j + 1)) (j + 1) : Nat) := by unfold chI; rw [if_neg (by omega)]; rfl
    have e2 : chI (2 * (j + 1)) (((j + 1 : Nat) : Int) - 0 - 1) = (ch (2 * (j + 1)) j : Nat) := by
      unfold chI
      rw [if_neg (by omega), show (((j + 1 : Nat) : Int) - 0 - 1).toNat = j by omega]
    rw [e1, e2]
    rw [show 2 * (j + 1) - j = j + 2 by omega] at h
    have h2 : ((ch (2 * (j + 1)) (j + 1) : Nat) : Int) * ((j : Int) + 1) = (ch (2 * (j + 1)) j : Nat) * ((j : Int) + 2) := by exact_mod_cast h
    rw [Int.sub_mul, show (((j + 1 : Nat) : Int) + 1) = (j : Int) + 2 by omega, ← h2, show (j : Int) + 2 = ((j : Int) + 1) + 1 by omega, Int.mul_add, Int.mul_one]
    omega
end Go.Proofs.YtfcfhiekkpflcaaDoor
