/- Plain: pairs that are moved in turns: what can be reached in just so many moves, what can be opened so, and the first list. -/
import Derived.Test.YtjhcemhnnkcjaaaDoorLawOpened
namespace Go.Proofs.YtjhcemhnnkcjaaaDoor
open Go.RowKit
namespace Tu
def pk (s x y : Nat) : Nat := if s = 0 then x else y
def mvX (s k x : Nat) : Nat := if s = 0 then x ^^^ 2 ^ k else x
def mvY (s k y : Nat) : Nat := if s = 0 then y else y ^^^ 2 ^ k
theorem mod_xor (s k : Nat) : (s ^^^ 2 ^ k) % 2 ^ k = s % 2 ^ k := by
  apply Nat.eq_of_testBit_eq
  intro j
  rw [Nat.testBit_mod_two_pow, Nat.testBit_mod_two_pow, Nat.testBit_xor, Nat.testBit_two_pow]
  by_cases h : j < k
  · have : decide (k = j) = false := decide_eq_false (by omega)
    rw [this, Bool.xor_false]
  · rw [decide_eq_false h, Bool.false_and, Bool.false_and]
theorem free_xor (s k : Nat) : freeB (s ^^^ 2 ^ k) k = freeB s k := by unfold freeB; rw [mod_xor]
theorem xor_xor (s k : Nat) : (s ^^^ 2 ^ k) ^^^ 2 ^ k = s := by rw [Nat.xor_assoc, Nat.xor_self, Nat.xor_zero]
/-- from s to p in just k moves, by numbers on the line -/
def rc (n s p k : Nat) : Prop := numB n s ≤ numB n p + k ∧ numB n p ≤ numB n s + k ∧ (numB n s + numB n p + k) % 2 = 0
theorem rc_zero {n s p : Nat} (hs : s < 2 ^ n) (hp : p < 2 ^ n) : rc n s p 0 ↔ p = s := by
  unfold rc
  constructor
  · rintro ⟨h1, h2, _⟩
    exact numB_inj hp hs (by omega)
  · rintro rfl
    exact ⟨by omega, by omega, by omega⟩
theorem rc_symm {n s p k : Nat} : rc n s p k ↔ rc n p s k := by
  unfold rc
  constructor <;> rintro ⟨h1, h2, h3⟩ <;> exact ⟨h2, h1, by omega⟩
theorem rc_move {n s p k j : Nat} (h : rc n s p j) (hk : k < n) (hf : freeB p k = true) : rc n s (p ^^^ 2 ^ k) (j + 1) := by
  obtain ⟨h1, h2, h3⟩ := h
  unfold rc
  rcases numB_move hk hf with ⟨e, _⟩ | ⟨e, _⟩ <;> omega
theorem rc_back {n s p j : Nat} (hn : 1 ≤ n) (h : rc n s p (j + 1)) : ∃ k, k < n ∧ freeB p k = true ∧ rc n s (p ^^^ 2 ^ k) j := by
  obtain ⟨h1, h2, h3⟩ := h
  have hp := numB_lt n p
  have hs := numB_lt n s
  have h2n := two_R hn
  by_cases hd : numB n s < numB n p ∨ (numB n s = numB n p ∧ 0 < numB n p)
  · obtain ⟨q1, q2, q3⟩ := numB_down (n := n) (s := p) (by omega)
    exact ⟨_, q1, q2, by unfold rc; omega⟩
  · obtain ⟨q1, q2, q3⟩ := numB_up (n := n) (s := p) (by omega)
    exact ⟨_, q1, q2, by unfold rc; omega⟩
/-- what both clasps can be after i moves -/
def lay (n m a b : Nat) : Nat → Nat → Nat → Prop
  | 0, x, y => x = a ∧ y = b
  | i + 1, x, y => ∃ x0 y0 k, lay n m a b i x0 y0 ∧ k < pk (i % 2) n m ∧ freeB (pk (i % 2) x0 y0) k = true ∧ x = mvX (i % 2) k x0 ∧ y = mvY (i % 2) k y0
theorem lay_lt {n m a b : Nat} (ha : a < 2 ^ n) (hb : b < 2 ^ m) : ∀ {i x y : Nat}, lay n m a b i x y → x < 2 ^ n ∧ y < 2 ^ m := by
  intro i
  induction i with
  | zero =>
    rintro x y ⟨rfl, rfl⟩
    exact ⟨ha, hb⟩
  | succ i ih =>
    rintro x y ⟨x0, y0, k, h1, h2, h3, rfl, rfl⟩
    obtain ⟨q1, q2⟩ := ih h1
    rcases Nat.mod_two_eq_zero_or_one i with e | e
    · rw [e] at h2 ⊢
      exact ⟨xor_pow_lt q1 h2, q2⟩
    · rw [e] at h2 ⊢
      exact ⟨q1, xor_pow_lt q2 h2⟩
theorem lay_iff {n m a b : Nat} (hn : 1 ≤ n) (hm : 1 ≤ m) (ha : a < 2 ^ n) (hb : b < 2 ^ m) : ∀ {i x y : Nat}, lay n m a b i x y ↔ (x < 2 ^ n ∧ y < 2 ^ m) ∧ rc n a x ((i + 1) / 2) ∧ rc m b y (i / 2) := by
  intro i
  induction i with
  | zero =>
    intro x y
    constructor
    · rintro ⟨rfl, rfl⟩
      exact ⟨⟨ha, hb⟩, (rc_zero ha ha).2 rfl, (rc_zero hb hb).2 rfl⟩
    · rintro ⟨⟨hx, hy⟩, h1, h2⟩
      exact ⟨(rc_zero ha hx).1 h1, (rc_zero hb hy).1 h2⟩
  | succ i ih =>
    intro x y
    constructor
    · intro h
      refine ⟨lay_lt ha hb h, ?_⟩
      obtain ⟨x0, y0, k, h1, h2, h3, rfl, rfl⟩ := h
      obtain ⟨_, q1, q2⟩ := ih.1 h1
      rcases Nat.mod_two_eq_zero_or_one i with e | e
      · rw [e] at h2 h3 ⊢
        rw [show (i + 1 + 1) / 2 = (i + 1) / 2 + 1 by omega, show (i + 1) / 2 = i / 2 by omega]
        rw [show (i + 1) / 2 = i / 2 by omega] at q1
        exact ⟨rc_move q1 h2 h3, q2⟩
      · rw [e] at h2 h3 ⊢
        rw [show (i + 1 + 1) / 2 = (i + 1) / 2 by omega, show (i + 1) / 2 = i / 2 + 1 by omega]
        rw [show (i + 1) / 2 = i / 2 + 1 by omega] at q1
        exact ⟨q1, rc_move q2 h2 h3⟩
    · rintro ⟨⟨hx, hy⟩, q1, q2⟩
      rcases Nat.mod_two_eq_zero_or_one i with e | e
      · rw [show (i + 1 + 1) / 2 = i / 2 + 1 by omega] at q1
        rw [show (i + 1) / 2 = i / 2 by omega] at q2
        obtain ⟨k, h1, h2, h3⟩ := rc_back hn q1
        refine ⟨x ^^^ 2 ^ k, y, k, ih.2 ⟨⟨xor_pow_lt hx h1, hy⟩, by rw [show (i + 1) / 2 = i / 2 by omega]; exact h3, q2⟩, ?_⟩
        rw [e]
        exact ⟨h1, (free_xor x k).trans h2, (xor_xor x k).symm, rfl⟩
      · rw [show (i + 1 + 1) / 2 = i / 2 + 1 by omega] at q1
        rw [show (i + 1) / 2 = i / 2 + 1 by omega] at q2
        obtain ⟨k, h1, h2, h3⟩ := rc_back hm q2
        refine ⟨x, y ^^^ 2 ^ k, k, ih.2 ⟨⟨hx, xor_pow_lt hy h1⟩, by rw [show (i + 1) / 2 = i / 2 + 1 by omega]; exact q1, h3⟩, ?_⟩
        rw [e]
        exact ⟨h1, (free_xor y k).trans h2, rfl, (xor_xor y k).symm⟩
/-- what can still be opened in just l moves, c in all -/
def gd (n m a b c : Nat) : Nat → Nat → Nat → Prop
  | 0, x, y => x = 0 ∧ y = 0
  | l + 1, x, y => lay n m a b (c - (l + 1)) x y ∧ ∃ k, k < pk ((c - (l + 1)) % 2) n m ∧ freeB (pk ((c - (l + 1)) % 2) x y) k = true ∧ gd n m a b c l (mvX ((c - (l + 1)) % 2) k x) (mvY ((c - (l + 1)) % 2) k y)
theorem gd_iff {n m a b c : Nat} (hn : 1 ≤ n) (hm : 1 ≤ m) (ha : a < 2 ^ n) (hb : b < 2 ^ m) (hc : lay n m a b c 0 0) : ∀ {l x y : Nat}, l ≤ c → (gd n m a b c l x y ↔ lay n m a b (c - l) x y ∧ rc n 0 x ((c + 1) / 2 - (c - l + 1) / 2) ∧ rc m 0 y (c / 2 - (c - l) / 2)) := by
  have h0n : 0 < 2 ^ n := Nat.two_pow_pos n
  have h0m : 0 < 2 ^ m := Nat.two_pow_pos m
  intro l
  induction l with
  | zero =>
    intro x y _
    rw [Nat.sub_zero, Nat.sub_self, Nat.sub_self]
    constructor
    · rintro ⟨rfl, rfl⟩
      exact ⟨hc, (rc_zero h0n h0n).2 rfl, (rc_zero h0m h0m).2 rfl⟩
    · rintro ⟨h1, h2, h3⟩
      obtain ⟨q1, q2⟩ := lay_lt ha hb h1
      exact ⟨(rc_zero h0n q1).1 h2, (rc_zero h0m q2).1 h3⟩
  | succ l ih =>
    intro x y hl
    have e1 : c - l = c - (l + 1) + 1 := by omega
    obtain ⟨i, hi⟩ : ∃ i, c - (l + 1) = i := ⟨_, rfl⟩
    rw [gd]
    rw [hi] at e1 ⊢
    have hci : c = i + l + 1 := by omega
    constructor
    · rintro ⟨h1, k, h2, h3, h4⟩
      obtain ⟨_, q1, q2⟩ := (ih (by omega)).1 h4
      rw [e1] at q1 q2
      refine ⟨h1, ?_⟩
      rcases Nat.mod_two_eq_zero_or_one i with e | e
      · rw [e] at h2 h3 q1 q2
        have q3 := rc_move q1 h2 ((free_xor x k).trans h3)
        rw [show (mvX 0 k x) ^^^ 2 ^ k = x from xor_xor x k] at q3
        exact ⟨by rw [show (c + 1) / 2 - (i + 1) / 2 = (c + 1) / 2 - (i + 1 + 1) / 2 + 1 by omega]; exact q3, by rw [show c / 2 - i / 2 = c / 2 - (i + 1) / 2 by omega]; exact q2⟩
      · rw [e] at h2 h3 q1 q2
        have q3 := rc_move q2 h2 ((free_xor y k).trans h3)
        rw [show (mvY 1 k y) ^^^ 2 ^ k = y from xor_xor y k] at q3
        exact ⟨by rw [show (c + 1) / 2 - (i + 1) / 2 = (c + 1) / 2 - (i + 1 + 1) / 2 by omega]; exact q1, by rw [show c / 2 - i / 2 = c / 2 - (i + 1) / 2 + 1 by omega]; exact q3⟩
    · rintro ⟨h1, q1, q2⟩
      refine ⟨h1, ?_⟩
      rcases Nat.mod_two_eq_zero_or_one i with e | e
      · rw [show (c + 1) / 2 - (i + 1) / 2 = (c + 1) / 2 - (i + 1 + 1) / 2 + 1 by omega] at q1
        rw [show c / 2 - i / 2 = c / 2 - (i + 1) / 2 by omega] at q2
        obtain ⟨k, h2, h3, h4⟩ := rc_back hn q1
        refine ⟨k, by rw [e]; exact h2, by rw [e]; exact h3, (ih (by omega)).2 ?_⟩
        rw [e1]
        refine ⟨⟨x, y, k, h1, by rw [e]; exact h2, by rw [e]; exact h3, rfl, rfl⟩, ?_⟩
        rw [e]
        exact ⟨h4, q2⟩
      · rw [show (c + 1) / 2 - (i + 1) / 2 = (c + 1) / 2 - (i + 1 + 1) / 2 by omega] at q1
        rw [show c / 2 - i / 2 = c / 2 - (i + 1) / 2 + 1 by omega] at q2
        obtain ⟨k, h2, h3, h4⟩ := rc_back hm q2
        refine ⟨k, by rw [e]; exact h2, by rw [e]; exact h3, (ih (by omega)).2 ?_⟩
        rw [e1]
        refine ⟨⟨x, y, k, h1, by rw [e]; exact h2, by rw [e]; exact h3, rfl, rfl⟩, ?_⟩
        rw [e]
        exact ⟨q1, h4⟩
theorem numB_zero (n : Nat) : numB n 0 = 0 := by
  induction n with
  | zero => rfl
  | succ n ih =>
    have e : bitS (n + 1) 0 = bitS n 0 ++ [0] := by simp [bitS, List.range_succ]
    unfold numB at ih ⊢
    rw [e, numS_off, ih]
/-- the first ring that leads where it can still be opened -/
def rgU (n p l : Nat) : Nat := if upC n p l then tz (p + 1) else tz p
def stU (n p l : Nat) : Nat := if upC n p l then p + 1 else p - 1
theorem first_one {n x l : Nat} (hn : 1 ≤ n) (h : rc n 0 x (l / 2 + 1)) : rgU n (numB n x) l < n ∧ freeB x (rgU n (numB n x) l) = true ∧ rc n 0 (x ^^^ 2 ^ rgU n (numB n x) l) (l / 2) ∧ numB n (x ^^^ 2 ^ rgU n (numB n x) l) = stU n (numB n x) l ∧
    ∀ k, k < rgU n (numB n x) l → k < n → freeB x k = true → ¬ rc n 0 (x ^^^ 2 ^ k) (l / 2) := by
  obtain ⟨_, h2, h3⟩ := h
  rw [numB_zero] at h2 h3
  have hlt := numB_lt n x
  have h2n := two_R hn
  obtain ⟨p, hp⟩ : ∃ p, numB n x = p := ⟨_, rfl⟩
  unfold rgU stU rc
  rw [numB_zero, hp]
  rw [hp] at h2 h3 hlt
  cases hu : upC n p l with
  | true =>
    rw [if_pos rfl, if_pos rfl]
    have hu2 : (p < 2 ^ n - 1 ∧ p + 1 ≤ l / 2) ∧ (p = 0 ∨ tz (p + 1) < tz p) := by simpa [upC] using hu
    obtain ⟨⟨u1, u2⟩, u3⟩ := hu2
    obtain ⟨q1, q2, q3⟩ := numB_up (n := n) (s := x) (by omega)
    rw [hp] at q1 q2 q3
    refine ⟨q1, q2, by rw [q3]; omega, q3, fun k hk hkn hf hg => ?_⟩
    rcases numB_move hkn hf with ⟨_, e2⟩ | ⟨e1, e2⟩
    · rw [hp] at e2
      omega
    · rw [hp] at e1 e2
      rcases u3 with u3 | u3
      · omega
      · omega
  | false =>
    rw [if_neg (by simp), if_neg (by simp)]
    have hp0 : 0 < p := by
      rcases Nat.eq_zero_or_pos p with h0 | h0
      · rw [h0] at hu h3
        rw [upC_zero hn (by omega)] at hu
        cases hu
      · exact h0
    obtain ⟨q1, q2, q3⟩ := numB_down (n := n) (s := x) (by omega)
    rw [hp] at q1 q2 q3
    refine ⟨q1, q2, by omega, by omega, fun k hk hkn hf hg => ?_⟩
    obtain ⟨g1, g2, g3⟩ := hg
    have hlt2 := numB_lt n (x ^^^ 2 ^ k)
    rcases numB_move hkn hf with ⟨e1, e2⟩ | ⟨e1, e2⟩
    · rw [hp] at e1 e2
      have hy := upC_yes (R := n) (n := p) (l := l) (by omega) (by omega) (by omega)
      rw [hy] at hu
      cases hu
    · rw [hp] at e1 e2
      omega
/-- after how few moves both are open -/
theorem few_lay {n m a b : Nat} (hn : 1 ≤ n) (hm : 1 ≤ m) (ha : a < 2 ^ n) (hb : b < 2 ^ m) : lay n m a b (fewN (numB n a) (numB m b)) 0 0 ∧ ∀ i, i < fewN (numB n a) (numB m b) → ¬ lay n m a b i 0 0 := by
  have h0n : 0 < 2 ^ n := Nat.two_pow_pos n
  have h0m : 0 < 2 ^ m := Nat.two_pow_pos m
  constructor
  · rw [lay_iff hn hm ha hb]
    refine ⟨⟨h0n, h0m⟩, ?_, ?_⟩
    all_goals
      unfold rc fewN
      rw [numB_zero]
      split <;> omega
  · intro i hi h
    rw [lay_iff hn hm ha hb] at h
    obtain ⟨_, h1, h2⟩ := h
    unfold rc at h1 h2
    rw [numB_zero] at h1 h2
    unfold fewN at hi
    split at hi <;> omega
theorem few_le {n m a b : Nat} (hn : n ≤ 4) (hm : m ≤ 4) : fewN (numB n a) (numB m b) ≤ 31 := by
  have h1 := Nat.lt_of_lt_of_le (numB_lt n a) (Nat.pow_le_pow_right (n := 2) (by omega) hn)
  have h2 := Nat.lt_of_lt_of_le (numB_lt m b) (Nat.pow_le_pow_right (n := 2) (by omega) hm)
  unfold fewN
  split <;> omega
/-- F without one pair -/
def strk (F : Nat → Nat → Prop) (x y a b : Nat) : Prop := F a b ∧ ¬ (a = x ∧ b = y)
/-- what one move of side s makes of those of L that are no longer to come -/
def nxP (L F : Nat → Nat → Prop) (s sz x y : Nat) : Prop := ∃ x0 y0 k, (L x0 y0 ∧ ¬ F x0 y0) ∧ k < sz ∧ freeB (pk s x0 y0) k = true ∧ x = mvX s k x0 ∧ y = mvY s k y0
/-- .. and the first k rings of x1, y1 -/
def nxK (L F : Nat → Nat → Prop) (s sz x1 y1 k x y : Nat) : Prop := nxP L F s sz x y ∨ ∃ j, j < k ∧ freeB (pk s x1 y1) j = true ∧ x = mvX s j x1 ∧ y = mvY s j y1
section
variable {L F : Nat → Nat → Prop} {s sz x1 y1 k x y : Nat}
theorem nxP_start : nxP L L s sz x y ↔ False := ⟨fun ⟨_, _, _, ⟨h1, h2⟩, _⟩ => h2 h1, False.elim⟩
theorem nxK_zero : nxK L F s sz x1 y1 0 x y ↔ nxP L F s sz x y := ⟨fun h => h.elim id (fun ⟨_, h, _⟩ => absurd h (by omega)), Or.inl⟩
theorem nxK_skip (h : freeB (pk s x1 y1) k = false) : nxK L F s sz x1 y1 (k + 1) x y ↔ nxK L F s sz x1 y1 k x y := by
  unfold nxK
  constructor
  · rintro (h1 | ⟨j, h1, h2, h3⟩)
    · exact Or.inl h1
    · refine Or.inr ⟨j, ?_, h2, h3⟩
      rcases Nat.lt_or_ge j k with h4 | h4
      · exact h4
      · obtain rfl : j = k := by omega
        rw [h] at h2
        cases h2
  · rintro (h1 | ⟨j, h1, h2, h3⟩)
    · exact Or.inl h1
    · exact Or.inr ⟨j, by omega, h2, h3⟩
theorem nxK_put (h : freeB (pk s x1 y1) k = true) : nxK L F s sz x1 y1 (k + 1) x y ↔ (nxK L F s sz x1 y1 k x y ∨ (x = mvX s k x1 ∧ y = mvY s k y1)) := by
  unfold nxK
  constructor
  · rintro (h1 | ⟨j, h1, h2, h3⟩)
    · exact Or.inl (Or.inl h1)
    · rcases Nat.lt_or_ge j k with h4 | h4
      · exact Or.inl (Or.inr ⟨j, h4, h2, h3⟩)
      · obtain rfl : j = k := by omega
        exact Or.inr h3
  · rintro ((h1 | ⟨j, h1, h2, h3⟩) | h3)
    · exact Or.inl h1
    · exact Or.inr ⟨j, by omega, h2, h3⟩
    · exact Or.inr ⟨k, by omega, h, h3⟩
theorem nxK_end (h : L x1 y1) : nxK L F s sz x1 y1 sz x y ↔ nxP L (strk F x1 y1) s sz x y := by
  unfold nxK nxP strk
  constructor
  · rintro (⟨x0, y0, k, ⟨h1, h2⟩, h3⟩ | ⟨j, h1, h2, h3⟩)
    · exact ⟨x0, y0, k, ⟨h1, fun h4 => h2 h4.1⟩, h3⟩
    · exact ⟨x1, y1, j, ⟨h, fun h4 => h4.2 ⟨rfl, rfl⟩⟩, h1, h2, h3⟩
  · rintro ⟨x0, y0, k, ⟨h1, h2⟩, h3, h4, h5⟩
    by_cases he : x0 = x1 ∧ y0 = y1
    · obtain ⟨rfl, rfl⟩ := he
      exact Or.inr ⟨k, h3, h4, h5⟩
    · exact Or.inl ⟨x0, y0, k, ⟨h1, fun h6 => h2 ⟨h6, he⟩⟩, h3, h4, h5⟩
end
theorem nx_layer {n m a b i x y : Nat} {F : Nat → Nat → Prop} (ha : a < 2 ^ n) (hb : b < 2 ^ m) (hn : 2 ^ n ≤ 16) (hm : 2 ^ m ≤ 16) (hF : ∀ x y, x < 16 → y < 16 → ¬ F x y) : nxP (lay n m a b i) F (i % 2) (pk (i % 2) n m) x y ↔ lay n m a b (i + 1) x y := by
  constructor
  · rintro ⟨x0, y0, k, ⟨h1, _⟩, h2, h3, h4⟩
    exact ⟨x0, y0, k, h1, h2, h3, h4⟩
  · rintro ⟨x0, y0, k, h1, h2, h3, h4⟩
    obtain ⟨q1, q2⟩ := lay_lt ha hb h1
    exact ⟨x0, y0, k, ⟨h1, hF x0 y0 (by omega) (by omega)⟩, h2, h3, h4⟩
theorem mv_lt {s k x y n m : Nat} (hx : x < 2 ^ n) (hy : y < 2 ^ m) (hs : s < 2) (hk : k < pk s n m) : mvX s k x < 2 ^ n ∧ mvY s k y < 2 ^ m := by
  rcases (show s = 0 ∨ s = 1 by omega) with rfl | rfl
  · exact ⟨xor_pow_lt hx hk, hy⟩
  · exact ⟨hx, xor_pow_lt hy hk⟩
theorem gd_all {n m a b C : Nat} (hn : 1 ≤ n) (hm : 1 ≤ m) (ha : a < 2 ^ n) (hb : b < 2 ^ m) (hc : lay n m a b C 0 0) : gd n m a b C C a b := by
  rw [gd_iff hn hm ha hb hc (Nat.le_refl C), Nat.sub_self]
  obtain ⟨_, h1, h2⟩ := (lay_iff hn hm ha hb).1 hc
  exact ⟨⟨rfl, rfl⟩, rc_symm.1 h1, rc_symm.1 h2⟩
theorem go_step (R A : Nat → Nat) (l s : Nat) : turnsGo R (l + 1) s A = (rgU (R s) (A s) l : Int) :: turnsGo R l (1 - s) (upd A s (stU (R s) (A s) l)) := by
  unfold rgU stU
  rw [turnsGo]
  split <;> rfl
/-- a turn -/
theorem turn_step {n m a b C i x y : Nat} (hn : 1 ≤ n) (hm : 1 ≤ m) (ha : a < 2 ^ n) (hb : b < 2 ^ m) (hc : lay n m a b C 0 0) (hi : i < C) (hg : gd n m a b C (C - i) x y) :
    rgU (pk (i % 2) n m) (numB (pk (i % 2) n m) (pk (i % 2) x y)) (C - (i + 1)) < pk (i % 2) n m ∧ freeB (pk (i % 2) x y) (rgU (pk (i % 2) n m) (numB (pk (i % 2) n m) (pk (i % 2) x y)) (C - (i + 1))) = true ∧
    gd n m a b C (C - (i + 1)) (mvX (i % 2) (rgU (pk (i % 2) n m) (numB (pk (i % 2) n m) (pk (i % 2) x y)) (C - (i + 1))) x) (mvY (i % 2) (rgU (pk (i % 2) n m) (numB (pk (i % 2) n m) (pk (i % 2) x y)) (C - (i + 1))) y) ∧
    numB (pk (i % 2) n m) (pk (i % 2) x y ^^^ 2 ^ rgU (pk (i % 2) n m) (numB (pk (i % 2) n m) (pk (i % 2) x y)) (C - (i + 1))) = stU (pk (i % 2) n m) (numB (pk (i % 2) n m) (pk (i % 2) x y)) (C - (i + 1)) ∧
    ∀ k, k < rgU (pk (i % 2) n m) (numB (pk (i % 2) n m) (pk (i % 2) x y)) (C - (i + 1)) → ¬ (freeB (pk (i % 2) x y) k = true ∧ gd n m a b C (C - (i + 1)) (mvX (i % 2) k x) (mvY (i % 2) k y)) := by
  have hI := fun x y => gd_iff (x := x) (y := y) hn hm ha hb hc (show C - (i + 1) ≤ C by omega)
  obtain ⟨h1, h2, h3⟩ := (gd_iff hn hm ha hb hc (show C - i ≤ C by omega)).1 hg
  rw [show C - (C - i) = i by omega] at h1 h2 h3
  rw [show C - (C - (i + 1)) = i + 1 by omega] at hI
  obtain ⟨l, hl⟩ : ∃ l, C - (i + 1) = l := ⟨_, rfl⟩
  rw [hl] at hI ⊢
  rcases Nat.mod_two_eq_zero_or_one i with e | e
  · rw [e]
    show rgU n (numB n x) l < n ∧ freeB x (rgU n (numB n x) l) = true ∧ gd n m a b C l (x ^^^ 2 ^ rgU n (numB n x) l) y ∧ numB n (x ^^^ 2 ^ rgU n (numB n x) l) = stU n (numB n x) l ∧ ∀ k, k < rgU n (numB n x) l → ¬ (freeB x k = true ∧ gd n m a b C l (x ^^^ 2 ^ k) y)
    rw [show (C + 1) / 2 - (i + 1) / 2 = l / 2 + 1 by omega] at h2
    obtain ⟨f1, f2, f3, f4, f5⟩ := first_one hn h2
    refine ⟨f1, f2, (hI _ _).2 ⟨⟨x, y, _, h1, by rw [e]; exact f1, by rw [e]; exact f2, by rw [e]; rfl, by rw [e]; rfl⟩, ?_, ?_⟩, f4, fun k hk hh => ?_⟩
    · rw [show (C + 1) / 2 - (i + 1 + 1) / 2 = l / 2 by omega]; exact f3
    · rw [show C / 2 - (i + 1) / 2 = C / 2 - i / 2 by omega]; exact h3
    · obtain ⟨_, g2, _⟩ := (hI _ _).1 hh.2
      rw [show (C + 1) / 2 - (i + 1 + 1) / 2 = l / 2 by omega] at g2
      exact f5 k hk (by omega) hh.1 g2
  · rw [e]
    show rgU m (numB m y) l < m ∧ freeB y (rgU m (numB m y) l) = true ∧ gd n m a b C l x (y ^^^ 2 ^ rgU m (numB m y) l) ∧ numB m (y ^^^ 2 ^ rgU m (numB m y) l) = stU m (numB m y) l ∧ ∀ k, k < rgU m (numB m y) l → ¬ (freeB y k = true ∧ gd n m a b C l x (y ^^^ 2 ^ k))
    rw [show C / 2 - i / 2 = l / 2 + 1 by omega] at h3
    obtain ⟨f1, f2, f3, f4, f5⟩ := first_one hm h3
    refine ⟨f1, f2, (hI _ _).2 ⟨⟨x, y, _, h1, by rw [e]; exact f1, by rw [e]; exact f2, by rw [e]; rfl, by rw [e]; rfl⟩, ?_, ?_⟩, f4, fun k hk hh => ?_⟩
    · rw [show (C + 1) / 2 - (i + 1 + 1) / 2 = (C + 1) / 2 - (i + 1) / 2 by omega]; exact h2
    · rw [show C / 2 - (i + 1) / 2 = l / 2 by omega]; exact f3
    · obtain ⟨_, _, g2⟩ := (hI _ _).1 hh.2
      rw [show C / 2 - (i + 1) / 2 = l / 2 by omega] at g2
      exact f5 k hk (by omega) hh.1 g2
/-- where the turns stand -/
structure Trn (n m a b C : Nat) (TL : List Int) (i x y : Nat) (A : Nat → Nat) : Prop where
  dr : TL.drop i = turnsGo (pairR n m) (C - i) (i % 2) A
  a0 : A 0 = numB n x
  a1 : A 1 = numB m y
  go : gd n m a b C (C - i) x y
theorem pairR_pk {n m s : Nat} (hs : s < 2) : pairR n m s = pk s n m := by
  rcases (show s = 0 ∨ s = 1 by omega) with rfl | rfl <;> rfl
theorem Trn.step {n m a b C : Nat} {TL : List Int} {i x y : Nat} {A : Nat → Nat} (hn : 1 ≤ n) (hm : 1 ≤ m) (ha : a < 2 ^ n) (hb : b < 2 ^ m) (hc : lay n m a b C 0 0) (hi : i < C) (h : Trn n m a b C TL i x y A) :
    ∃ (rg : Nat) (A' : Nat → Nat), TL[i]? = some (rg : Int) ∧ rg < pk (i % 2) n m ∧ freeB (pk (i % 2) x y) rg = true ∧ gd n m a b C (C - (i + 1)) (mvX (i % 2) rg x) (mvY (i % 2) rg y) ∧
    Trn n m a b C TL (i + 1) (mvX (i % 2) rg x) (mvY (i % 2) rg y) A' ∧ ∀ k, k < rg → ¬ (freeB (pk (i % 2) x y) k = true ∧ gd n m a b C (C - (i + 1)) (mvX (i % 2) k x) (mvY (i % 2) k y)) := by
  have hst := turn_step hn hm ha hb hc hi h.go
  have hA : A (i % 2) = numB (pk (i % 2) n m) (pk (i % 2) x y) := by
    rcases Nat.mod_two_eq_zero_or_one i with e | e
    · rw [e]; exact h.a0
    · rw [e]; exact h.a1
  obtain ⟨q1, q2, q3, q4, q5⟩ := hst
  have hd := h.dr
  rw [show C - i = (C - (i + 1)) + 1 by omega, go_step, pairR_pk (by omega), hA] at hd
  refine ⟨_, upd A (i % 2) (stU (pk (i % 2) n m) (numB (pk (i % 2) n m) (pk (i % 2) x y)) (C - (i + 1))), ?_, q1, q2, q3, ⟨?_, ?_, ?_, q3⟩, q5⟩
  · have h2 := congrArg (fun l : List Int => l[0]?) hd
    simpa using h2
  · have h2 := congrArg List.tail hd
    rw [List.tail_drop] at h2
    rw [h2, show (i + 1) % 2 = 1 - i % 2 by omega]
    rfl
  · rcases Nat.mod_two_eq_zero_or_one i with e | e
    · rw [e] at q4 ⊢
      exact q4.symm
    · rw [e]
      exact h.a0
  · rcases Nat.mod_two_eq_zero_or_one i with e | e
    · rw [e]
      exact h.a1
    · rw [e] at q4 ⊢
      exact q4.symm
end Tu
end Go.Proofs.YtjhcemhnnkcjaaaDoor
