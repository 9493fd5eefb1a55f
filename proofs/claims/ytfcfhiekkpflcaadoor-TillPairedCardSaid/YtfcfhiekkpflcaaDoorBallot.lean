/- Plain: how many can be chosen; how many orders are good. -/
import Derived.Test.YtfcfhiekkpflcaaDoorBase
namespace Go.Proofs.YtfcfhiekkpflcaaDoor
/-- Pascal's triangle -/
def ch : Nat → Nat → Nat
  | _, 0 => 1
  | 0, _ + 1 => 0
  | m + 1, k + 1 => ch m k + ch m (k + 1)
theorem ch_zero (m : Nat) : ch m 0 = 1 := by cases m <;> rfl
theorem ch_none : ∀ (m k : Nat), m < k → ch m k = 0 := by
  intro m
  induction m with
  | zero => intro k h; cases k with
    | zero => omega
    | succ k => rfl
  | succ m ih => intro k h; cases k with
    | zero => omega
    | succ k => rw [ch, ih k (by omega), ih (k + 1) (by omega)]
theorem ch_self (m : Nat) : ch m m = 1 := by
  induction m with
  | zero => rfl
  | succ m ih => rw [ch, ih, ch_none m (m + 1) (by omega)]
theorem ch_step : ∀ (m k : Nat), ch m (k + 1) * (k + 1) = ch m k * (m - k) := by
  intro m
  induction m with
  | zero => intro k; rw [ch_none 0 (k + 1) (by omega)]; simp
  | succ m ih =>
    intro k
    cases k with
    | zero =>
      have := ih 0
      rw [ch_zero] at this ⊢
      rw [show ch (m + 1) (0 + 1) = ch m 0 + ch m (0 + 1) from rfl, ch_zero]
      omega
    | succ k =>
      have h1 := ih k
      have h2 := ih (k + 1)
      rw [ch, ch, Nat.add_mul, Nat.add_mul, h2, show m + 1 - (k + 1) = m - k by omega, ← h1, ← Nat.mul_add]
      rcases Nat.lt_or_ge m (k + 1) with hlt | hge
      · rw [ch_none m (k + 1) hlt]; simp
      · rw [← Nat.mul_add]
        congr 1
        omega
theorem ch_le : ∀ (m k : Nat), ch m k ≤ 2 ^ m := by
  intro m
  induction m with
  | zero => intro k; cases k <;> simp [ch]
  | succ m ih =>
    intro k
    cases k with
    | zero => rw [ch_zero]; exact Nat.one_le_two_pow
    | succ k =>
      have h1 := ih k
      have h2 := ih (k + 1)
      rw [ch, Nat.pow_succ]
      omega
/-- a step of the program's choose -/
theorem ch_div {m i : Nat} : ((ch m i : Nat) : Int) * ((m : Int) - i) / ((i : Int) + 1) = (ch m (i + 1) : Nat) := by
  rcases Nat.lt_or_ge m i with h | h
  · rw [ch_none m i h, ch_none m (i + 1) (by omega)]; simp
  · have := ch_step m i
    have e : ((ch m i : Nat) : Int) * ((m : Int) - i) = ((ch m (i + 1) : Nat) : Int) * ((i : Int) + 1) := by
      have h2 : ((m : Int) - i) = ((m - i : Nat) : Int) := by omega
      rw [h2, show ((i : Int) + 1) = ((i + 1 : Nat) : Int) by omega, ← Int.natCast_mul, ← Int.natCast_mul, this]
    rw [e, Int.mul_ediv_cancel _ (by omega)]
def chI (m : Nat) (n : Int) : Int := if n < 0 then 0 else (ch m n.toNat : Nat)
/-- the number of good orders, as the program counts -/
def balT (c n b : Int) : Int := if c < 0 ∨ n < 0 ∨ c + b < n then 0 else chI (c + n).toNat n - chI (c + n).toNat (n - b - 1)
/-- the number of good orders: the first customer pays with a coin, or with a note -/
def gdN : Nat → Nat → Nat → Nat → Nat
  | 0, _, _, _ => 1
  | s + 1, c, n, b => (if 0 < c then gdN s (c - 1) n (b + 1) else 0) + (if 0 < n ∧ 0 < b then gdN s c (n - 1) (b - 1) else 0)
theorem gd_none : ∀ (s c n b : Nat), s = c + n → c + b < n → gdN s c n b = 0 := by
  intro s
  induction s with
  | zero => intro c n b h1 h2; omega
  | succ s ih =>
    intro c n b h1 h2
    rw [gdN]
    have e1 : (if 0 < c then gdN s (c - 1) n (b + 1) else 0) = 0 := by
      split
      · exact ih _ _ _ (by omega) (by omega)
      · rfl
    have e2 : (if 0 < n ∧ 0 < b then gdN s c (n - 1) (b - 1) else 0) = 0 := by
      split
      · exact ih _ _ _ (by omega) (by omega)
      · rfl
    rw [e1, e2]
def flN (c n b : Nat) : Int := (ch (c + n) n : Nat) - (if n ≤ b then 0 else (ch (c + n) (n - b - 1) : Nat) : Int)
theorem gd_fl : ∀ (s c n b : Nat), s = c + n → n ≤ c + b → (gdN s c n b : Int) = flN c n b := by
  intro s
  induction s with
  | zero =>
    intro c n b h1 h2
    obtain ⟨rfl, rfl⟩ : c = 0 ∧ n = 0 := by omega
    simp [gdN, flN, ch]
  | succ s ih =>
    intro c n b h1 h2
    rw [gdN]
    cases c with
    | zero =>
      cases n with
      | zero => omega
      | succ n =>
        have hb : 0 < b := by omega
        rw [if_neg (by omega), if_pos ⟨by omega, hb⟩, Nat.zero_add, show n + 1 - 1 = n by omega, ih 0 n (b - 1) (by omega) (by omega)]
        unfold flN
        rw [Nat.zero_add, Nat.zero_add, ch_self, ch_self, if_pos (by omega), if_pos (by omega)]
    | succ c =>
      have hA := ih c n (b + 1) (by omega) (by omega)
      rw [if_pos (by omega)]
      cases n with
      | zero =>
        rw [if_neg (by omega), Nat.add_zero, show c + 1 - 1 = c by omega, hA]
        unfold flN
        rw [ch_zero, ch_zero, if_pos (by omega), if_pos (by omega)]
      | succ n =>
        have e1 : ch (c + 1 + (n + 1)) (n + 1) = ch (c + (n + 1)) n + ch (c + (n + 1)) (n + 1) := by
          rw [show c + 1 + (n + 1) = (c + (n + 1)) + 1 by omega, ch]
        rcases Nat.eq_zero_or_pos b with hb | hb
        · subst hb
          rw [if_neg (by omega), Nat.add_zero, show c + 1 - 1 = c by omega, hA]
          unfold flN
          rw [e1, if_neg (show ¬ n + 1 ≤ 0 by omega), show n + 1 - 0 - 1 = n by omega]
          cases n with
          | zero => rw [if_pos (by omega), ch_zero, ch_zero]; omega
          | succ n =>
            rw [if_neg (by omega), show n + 1 + 1 - (0 + 1) - 1 = n by omega, show c + 1 + (n + 1 + 1) = (c + (n + 1 + 1)) + 1 by omega, ch]
            omega
        · have hB := ih (c + 1) n (b - 1) (by omega) (by omega)
          rw [if_pos ⟨by omega, hb⟩, show c + 1 - 1 = c by omega, show n + 1 - 1 = n by omega]
          rw [Int.natCast_add, hA, hB]
          unfold flN
          rw [e1, show c + 1 + n = c + (n + 1) by omega]
          by_cases h3 : n + 1 ≤ b
          · rw [if_pos (by omega), if_pos (by omega), if_pos h3]; omega
          · rw [if_neg (show ¬ n ≤ b - 1 by omega), if_neg h3, show n - (b - 1) - 1 = n - b by omega, show n + 1 - b - 1 = n - b by omega]
            by_cases h4 : n + 1 ≤ b + 1
            · rw [if_pos h4, show n - b = 0 by omega, ch_zero, ch_zero]; omega
            · rw [if_neg h4, show n + 1 - (b + 1) - 1 = n - b - 1 by omega]
              obtain ⟨d, hd⟩ : ∃ d, n - b = d + 1 := ⟨n - b - 1, by omega⟩
              rw [hd, show c + 1 + (n + 1) = (c + (n + 1)) + 1 by omega, ch, show d + 1 - 1 = d by omega]
              omega
/-- both ways of counting -/
theorem bal_gd (c n b : Nat) : balT (c : Int) (n : Int) (b : Int) = (gdN (c + n) c n b : Nat) := by
  unfold balT
  by_cases h : (c : Int) + b < n
  · rw [if_pos (by omega), gd_none _ c n b rfl (by omega)]; rfl
  · rw [if_neg (by omega), gd_fl _ c n b rfl (by omega)]
    unfold flN chI
    rw [if_neg (by omega), show ((c : Int) + n).toNat = c + n by omega, show ((n : Int)).toNat = n by omega]
    by_cases h2 : n ≤ b
    · rw [if_pos (show (n : Int) - b - 1 < 0 by omega), if_pos h2]
    · rw [if_neg (show ¬ (n : Int) - b - 1 < 0 by omega), if_neg h2, show ((n : Int) - b - 1).toNat = n - b - 1 by omega]
/-- those that begin with a coin, and those that begin with a note -/
theorem gd_step {c n b : Nat} (h : 0 < c + n) : gdN (c + n) c n b = (if 0 < c then gdN (c - 1 + n) (c - 1) n (b + 1) else 0) + (if 0 < n ∧ 0 < b then gdN (c + (n - 1)) c (n - 1) (b - 1) else 0) := by
  obtain ⟨s, hs⟩ : ∃ s, c + n = s + 1 := ⟨c + n - 1, by omega⟩
  rw [hs, gdN]
  congr 1
  · by_cases hc : 0 < c
    · rw [if_pos hc, if_pos hc, show c - 1 + n = s by omega]
    · rw [if_neg hc, if_neg hc]
  · by_cases hc : 0 < n ∧ 0 < b
    · rw [if_pos hc, if_pos hc, show c + (n - 1) = s by omega]
    · rw [if_neg hc, if_neg hc]
theorem bal_bound {m : Nat} (h : m ≤ 16) (k : Int) : 0 ≤ chI m k ∧ chI m k ≤ 65536 := by
  unfold chI
  split
  · omega
  · have h1 := ch_le m k.toNat
    have h2 : 2 ^ m ≤ 2 ^ 16 := Nat.pow_le_pow_right (by omega) h
    have h3 : (2 : Nat) ^ 16 = 65536 := by decide
    omega
end Go.Proofs.YtfcfhiekkpflcaaDoor
