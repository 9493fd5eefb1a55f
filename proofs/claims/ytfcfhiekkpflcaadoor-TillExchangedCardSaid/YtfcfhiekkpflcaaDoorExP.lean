/- Plain: orders that lack change, one for one with those that have more than begin coins more than notes somewhere. -/
import Derived.Test.YtfcfhiekkpflcaaDoorBalQ
import Derived.Test.YtfcfhiekkpflcaaDoorRefB
namespace Go.Proofs.YtfcfhiekkpflcaaDoor
open Go.RowKit
/-- change lacks, from b coins -/
def badR : Word → Nat → Bool
  | [], _ => false
  | c :: l, b => if c = 99 then badR l (b + 1) else if b = 0 then true else badR l (b - 1)
/-- more than b coins more than notes, after some customer -/
def aheadR : Word → Nat → Bool
  | [], _ => false
  | c :: l, b => if c = 99 then (if b = 0 then true else aheadR l (b - 1)) else aheadR l (b + 1)
def flR : Word → Nat → Word
  | [], _ => []
  | c :: l, b => if c = 99 then 110 :: flR l (b + 1) else if b = 0 then 99 :: l else 99 :: flR l (b - 1)
def upR : Word → Nat → Word
  | [], _ => []
  | c :: l, b => if c = 99 then (if b = 0 then 110 :: l else 110 :: upR l (b - 1)) else 99 :: upR l (b + 1)
theorem okT_cons {c : UInt8} {l : Word} (h : okT (c :: l) = true) : (c = 99 ∨ c = 110) ∧ okT l = true :=
  ⟨okT_at h (by simp), by unfold okT at h ⊢; rw [List.all_cons] at h; simp at h; simpa using h.2⟩
theorem okT_mk {c : UInt8} {l : Word} (hc : c = 99 ∨ c = 110) (h : okT l = true) : okT (c :: l) = true := by
  unfold okT at h ⊢
  rw [List.all_cons, h]
  rcases hc with rfl | rfl <;> rfl
section
variable {l : Word}
theorem flR_len : ∀ b, (flR l b).length = l.length := by
  induction l with
  | nil => intro b; rfl
  | cons c l ih =>
    intro b
    rw [flR]
    split
    · simp [ih]
    · split <;> simp [ih]
theorem upR_len : ∀ b, (upR l b).length = l.length := by
  induction l with
  | nil => intro b; rfl
  | cons c l ih =>
    intro b
    rw [upR]
    split
    · split <;> simp [ih]
    · simp [ih]
theorem flR_ok (h : okT l = true) : ∀ b, okT (flR l b) = true := by
  induction l with
  | nil => intro b; rfl
  | cons c l ih =>
    intro b
    obtain ⟨hc, h2⟩ := okT_cons h
    rw [flR]
    split
    · exact okT_mk (Or.inr rfl) (ih h2 _)
    · split
      · exact okT_mk (Or.inl rfl) h2
      · exact okT_mk (Or.inl rfl) (ih h2 _)
theorem upR_ok (h : okT l = true) : ∀ b, okT (upR l b) = true := by
  induction l with
  | nil => intro b; rfl
  | cons c l ih =>
    intro b
    obtain ⟨hc, h2⟩ := okT_cons h
    rw [upR]
    split
    · split
      · exact okT_mk (Or.inr rfl) h2
      · exact okT_mk (Or.inr rfl) (ih h2 _)
    · exact okT_mk (Or.inl rfl) (ih h2 _)
theorem up_fl (h : okT l = true) : ∀ b, upR (flR l b) b = l := by
  induction l with
  | nil => intro b; rfl
  | cons c l ih =>
    intro b
    obtain ⟨hc, h2⟩ := okT_cons h
    rcases hc with rfl | rfl
    · rw [flR, if_pos rfl, upR, if_neg (by decide), ih h2]
    · rw [flR, if_neg (by decide)]
      by_cases hb : b = 0
      · rw [if_pos hb, upR, if_pos rfl, if_pos hb]
      · rw [if_neg hb, upR, if_pos rfl, if_neg hb, ih h2]
theorem fl_up (h : okT l = true) : ∀ b, flR (upR l b) b = l := by
  induction l with
  | nil => intro b; rfl
  | cons c l ih =>
    intro b
    obtain ⟨hc, h2⟩ := okT_cons h
    rcases hc with rfl | rfl
    · rw [upR, if_pos rfl]
      by_cases hb : b = 0
      · rw [if_pos hb, flR, if_neg (by decide), if_pos hb]
      · rw [if_neg hb, flR, if_neg (by decide), if_neg hb, ih h2]
    · rw [upR, if_neg (by decide), flR, if_pos rfl, ih h2]
theorem bad_up (h : okT l = true) : ∀ b, badR (upR l b) b = aheadR l b := by
  induction l with
  | nil => intro b; rfl
  | cons c l ih =>
    intro b
    obtain ⟨hc, h2⟩ := okT_cons h
    rcases hc with rfl | rfl
    · rw [upR, aheadR, if_pos rfl, if_pos rfl]
      by_cases hb : b = 0
      · rw [if_pos hb, if_pos hb, badR, if_neg (by decide), if_pos hb]
      · rw [if_neg hb, if_neg hb, badR, if_neg (by decide), if_neg hb, ih h2]
    · rw [upR, aheadR, if_neg (by decide), if_neg (by decide), badR, if_pos rfl, ih h2]
theorem count_up (h : okT l = true) : ∀ b, aheadR l b = true → (upR l b).count 110 = l.count 110 + b + 1 := by
  induction l with
  | nil => intro b h; cases h
  | cons c l ih =>
    intro b ha
    obtain ⟨hc, h2⟩ := okT_cons h
    rcases hc with rfl | rfl
    · rw [aheadR, if_pos rfl] at ha
      rw [upR, if_pos rfl, List.count_cons_of_ne (by decide)]
      by_cases hb : b = 0
      · rw [if_pos hb, List.count_cons_self]; omega
      · rw [if_neg hb] at ha
        rw [if_neg hb, List.count_cons_self, ih h2 _ ha]; omega
    · rw [aheadR, if_neg (by decide)] at ha
      rw [upR, if_neg (by decide), List.count_cons_of_ne (by decide), List.count_cons_self, ih h2 _ ha]
      omega
theorem negI_shift (xs : List Int) : ∀ i, negI xs (i + 1) = if negI xs i < 0 then -1 else negI xs i + 1 := by
  induction xs with
  | nil => intro i; rfl
  | cons x xs ih =>
    intro i
    rw [negI, negI]
    by_cases hx : x < 0
    · rw [if_pos hx, if_pos hx, if_neg (by omega)]; omega
    · rw [if_neg hx, if_neg hx, ih]
theorem lacks_cons (c : UInt8) (l : Word) (b : Int) : lacksT (c :: l) b = if stp b c < 0 then 0 else if lacksT l (stp b c) < 0 then -1 else lacksT l (stp b c) + 1 := by
  unfold lacksT
  rw [stepsT, negI]
  split
  · rfl
  · exact negI_shift _ 0
theorem bad_iff (h : okT l = true) : ∀ b : Nat, badR l b = decide (¬ lacksT l b < 0) := by
  induction l with
  | nil => intro b; rfl
  | cons c l ih =>
    intro b
    obtain ⟨hc, h2⟩ := okT_cons h
    rw [lacks_cons]
    rcases hc with rfl | rfl
    · rw [badR, if_pos rfl, ih h2]
      have e : stp (b : Int) 99 = ((b + 1 : Nat) : Int) := by unfold stp; rw [if_pos rfl]; rfl
      rw [e, if_neg (by omega)]
      generalize lacksT l ((b + 1 : Nat) : Int) = q
      rw [Bool.eq_iff_iff, decide_eq_true_iff, decide_eq_true_iff]
      split <;> omega
    · rw [badR, if_neg (by decide)]
      have e : stp (b : Int) 110 = (b : Int) - 1 := by unfold stp; rw [if_neg (by decide)]
      rw [e]
      by_cases hb : b = 0
      · subst hb; rfl
      · rw [if_neg hb, if_neg (by omega), ih h2, show (b : Int) - 1 = ((b - 1 : Nat) : Int) by omega]
        generalize lacksT l ((b - 1 : Nat) : Int) = q
        rw [Bool.eq_iff_iff, decide_eq_true_iff, decide_eq_true_iff]
        split <;> omega
theorem exT_succ (c : UInt8) (l : Word) (k : Nat) : exT (c :: l) (k + 1) = flipC c :: exT l k := rfl
theorem fl_ex (h : okT l = true) : ∀ b : Nat, ¬ lacksT l b < 0 → exT l (lacksT l b + 1).toNat = flR l b := by
  induction l with
  | nil => intro b hb; exact absurd (show (-1 : Int) < 0 by decide) hb
  | cons c l ih =>
    intro b hl
    obtain ⟨hc, h2⟩ := okT_cons h
    rw [lacks_cons] at hl ⊢
    rcases hc with rfl | rfl
    · have e : stp (b : Int) 99 = ((b + 1 : Nat) : Int) := by unfold stp; rw [if_pos rfl]; rfl
      rw [e, if_neg (by omega)] at hl ⊢
      by_cases hq : lacksT l ((b + 1 : Nat) : Int) < 0
      · rw [if_pos hq] at hl; omega
      · rw [if_neg hq, show (lacksT l ((b + 1 : Nat) : Int) + 1 + 1).toNat = (lacksT l ((b + 1 : Nat) : Int) + 1).toNat + 1 by omega, exT_succ, ih h2 _ hq, flR, if_pos rfl]
        rfl
    · have e : stp (b : Int) 110 = (b : Int) - 1 := by unfold stp; rw [if_neg (by decide)]
      rw [e] at hl ⊢
      rw [show flR (110 :: l) b = if b = 0 then 99 :: l else 99 :: flR l (b - 1) by rw [flR, if_neg (by decide)]]
      by_cases hb : b = 0
      · subst hb
        rw [if_pos (show ((0 : Nat) : Int) - 1 < 0 by decide), if_pos rfl]
        show exT (110 :: l) (0 + 1) = _
        rw [exT_succ]
        unfold exT
        simp
        rfl
      · rw [if_neg (by omega), show (b : Int) - 1 = ((b - 1 : Nat) : Int) by omega] at hl ⊢
        rw [if_neg hb]
        by_cases hq : lacksT l ((b - 1 : Nat) : Int) < 0
        · rw [if_pos hq] at hl; omega
        · rw [if_neg hq, show (lacksT l ((b - 1 : Nat) : Int) + 1 + 1).toNat = (lacksT l ((b - 1 : Nat) : Int) + 1).toNat + 1 by omega, exT_succ, ih h2 _ hq]
          rfl
theorem ahead_iff (h : okT l = true) : ∀ b : Nat, aheadR l b = (stepsT 0 l).any fun x => decide ((b : Int) < x) := by
  induction l with
  | nil => intro b; rfl
  | cons c l ih =>
    intro b
    obtain ⟨hc, h2⟩ := okT_cons h
    rw [stepsT, List.any_cons]
    have hadd : ∀ d : Int, stepsT d l = (stepsT 0 l).map (· + d) := fun d => by rw [← steps_add, Int.zero_add]
    rcases hc with rfl | rfl
    · rw [aheadR, if_pos rfl, show stp 0 99 = 1 from rfl, hadd 1, List.any_map]
      by_cases hb : b = 0
      · subst hb; rfl
      · rw [if_neg hb, decide_eq_false (by omega), Bool.false_or, ih h2]
        congr 1
        funext x
        simp only [Function.comp]
        rw [Bool.eq_iff_iff, decide_eq_true_iff, decide_eq_true_iff]
        omega
    · rw [aheadR, if_neg (by decide), show stp 0 110 = -1 from rfl, hadd (-1), List.any_map, decide_eq_false (by omega), Bool.false_or, ih h2]
      congr 1
      funext x
      simp only [Function.comp]
      rw [Bool.eq_iff_iff, decide_eq_true_iff, decide_eq_true_iff]
      omega
end
/-- both, by numbers -/
def bP (m k b x : Nat) : Bool := decide (pcW m x = k) && badR (spW m x) b
def aP (m j b x : Nat) : Bool := decide (pcW m x = j) && aheadR (spW m x) b
def pP (m j x : Nat) : Bool := decide (pcW m x = j)
section
variable {m k b x y j : Nat}
theorem bP_low (h : x < 2 ^ m) : bP (m + 1) k b x = bP m k (b + 1) x := by
  unfold bP
  rw [pc_low h, spW_low h, badR, if_pos rfl]
theorem bP_high (h : y < 2 ^ m) : bP (m + 1) k b (2 ^ m + y) = (decide (0 < k) && if b = 0 then pP m (k - 1) y else bP m (k - 1) (b - 1) y) := by
  unfold bP pP
  rw [pc_high h, spW_high h, badR, if_neg (by decide)]
  by_cases hk : 0 < k
  · have e : decide (pcW m y + 1 = k) = decide (pcW m y = k - 1) := by
      rw [Bool.eq_iff_iff, decide_eq_true_iff, decide_eq_true_iff]; omega
    rw [decide_eq_true hk, Bool.true_and, e]
    split
    · rw [Bool.and_true]
    · rfl
  · rw [decide_eq_false hk, Bool.false_and, decide_eq_false (show ¬ pcW m y + 1 = k by omega), Bool.false_and]
theorem aP_low (h : x < 2 ^ m) : aP (m + 1) j b x = if b = 0 then pP m j x else aP m j (b - 1) x := by
  unfold aP pP
  rw [pc_low h, spW_low h, aheadR, if_pos rfl]
  split
  · rw [Bool.and_true]
  · rfl
theorem aP_high (h : y < 2 ^ m) : aP (m + 1) j b (2 ^ m + y) = (decide (0 < j) && aP m (j - 1) (b + 1) y) := by
  unfold aP
  rw [pc_high h, spW_high h, aheadR, if_neg (by decide)]
  by_cases hk : 0 < j
  · have e : decide (pcW m y + 1 = j) = decide (pcW m y = j - 1) := by
      rw [Bool.eq_iff_iff, decide_eq_true_iff, decide_eq_true_iff]; omega
    rw [decide_eq_true hk, Bool.true_and, e]
  · rw [decide_eq_false hk, Bool.false_and, decide_eq_false (show ¬ pcW m y + 1 = j by omega), Bool.false_and]
end
theorem b_all (m k b : Nat) : cntP (bP (m + 1) k b) (2 ^ (m + 1)) = cntP (bP m k (b + 1)) (2 ^ m) + (if 0 < k then (if b = 0 then cntP (pP m (k - 1)) (2 ^ m) else cntP (bP m (k - 1) (b - 1)) (2 ^ m)) else 0) := by
  rw [show 2 ^ (m + 1) = 2 ^ m + 2 ^ m by rw [Nat.pow_succ]; omega, cntP_add]
  congr 1
  · exact cntP_congr fun _ hy => bP_low hy
  · by_cases hk : 0 < k
    · rw [if_pos hk]
      by_cases hb : b = 0
      · rw [if_pos hb]
        exact cntP_congr fun y hy => by
          show bP (m + 1) k b (2 ^ m + y) = _
          rw [bP_high hy, decide_eq_true hk, Bool.true_and, if_pos hb]
      · rw [if_neg hb]
        exact cntP_congr fun y hy => by
          show bP (m + 1) k b (2 ^ m + y) = _
          rw [bP_high hy, decide_eq_true hk, Bool.true_and, if_neg hb]
    · rw [if_neg hk]
      exact cntP_none fun y hy => by
        show bP (m + 1) k b (2 ^ m + y) = _
        rw [bP_high hy, decide_eq_false hk, Bool.false_and]
theorem a_all (m j b : Nat) : cntP (aP (m + 1) j b) (2 ^ (m + 1)) = (if b = 0 then cntP (pP m j) (2 ^ m) else cntP (aP m j (b - 1)) (2 ^ m)) + (if 0 < j then cntP (aP m (j - 1) (b + 1)) (2 ^ m) else 0) := by
  rw [show 2 ^ (m + 1) = 2 ^ m + 2 ^ m by rw [Nat.pow_succ]; omega, cntP_add]
  congr 1
  · by_cases hb : b = 0
    · rw [if_pos hb]
      exact cntP_congr fun y hy => by rw [aP_low hy, if_pos hb]
    · rw [if_neg hb]
      exact cntP_congr fun y hy => by rw [aP_low hy, if_neg hb]
  · by_cases hk : 0 < j
    · rw [if_pos hk]
      exact cntP_congr fun y hy => by
        show aP (m + 1) j b (2 ^ m + y) = _
        rw [aP_high hy, decide_eq_true hk, Bool.true_and]
    · rw [if_neg hk]
      exact cntP_none fun y hy => by
        show aP (m + 1) j b (2 ^ m + y) = _
        rw [aP_high hy, decide_eq_false hk, Bool.false_and]
/-- as many lack change as are ahead -/
theorem bad_ahead : ∀ m k b : Nat, cntP (bP m k b) (2 ^ m) = if b + 1 ≤ k then cntP (aP m (k - b - 1) b) (2 ^ m) else 0 := by
  intro m
  induction m with
  | zero =>
    intro k b
    have e1 : cntP (bP 0 k b) (2 ^ 0) = 0 := cntP_none fun y _ => by unfold bP; rw [show spW 0 y = [] from rfl, badR, Bool.and_false]
    have e2 : cntP (aP 0 (k - b - 1) b) (2 ^ 0) = 0 := cntP_none fun y _ => by unfold aP; rw [show spW 0 y = [] from rfl, aheadR, Bool.and_false]
    rw [e1, e2]
    split <;> rfl
  | succ m ih =>
    intro k b
    rw [b_all, a_all, ih]
    by_cases hkb : b + 1 ≤ k
    · rw [if_pos hkb, if_pos (show 0 < k by omega), Nat.add_comm]
      congr 1
      · by_cases hb : b = 0
        · rw [if_pos hb, if_pos hb, show k - b - 1 = k - 1 by omega]
        · rw [if_neg hb, if_neg hb, ih, if_pos (by omega), show k - 1 - (b - 1) - 1 = k - b - 1 by omega]
      · by_cases h2 : b + 1 + 1 ≤ k
        · rw [if_pos h2, if_pos (by omega), show k - (b + 1) - 1 = k - b - 1 - 1 by omega]
        · rw [if_neg h2, if_neg (by omega)]
    · rw [if_neg hkb, if_neg (by omega), Nat.zero_add]
      by_cases hk : 0 < k
      · rw [if_pos hk, if_neg (by omega), ih, if_neg (by omega)]
      · rw [if_neg hk]
/-- those that the law counts -/
def aQ (n N b x : Nat) : Bool := decide ((pcW n x : Int) = (N : Int) - b - 1) && aheadR (spW n x) b
theorem aQ_all (n N b : Nat) : cntP (aQ n N b) (2 ^ n) = cntP (bP n N b) (2 ^ n) := by
  rw [bad_ahead]
  by_cases h : b + 1 ≤ N
  · rw [if_pos h]
    exact cntP_congr fun y _ => by
      unfold aQ aP
      congr 1
      rw [Bool.eq_iff_iff, decide_eq_true_iff, decide_eq_true_iff]
      omega
  · rw [if_neg h]
    exact cntP_none fun y _ => by
      unfold aQ
      rw [decide_eq_false (by omega), Bool.false_and]
/-- what was met: the exchanged ones of those below x -/
def MetS (n N b x : Nat) (W : Word) : Prop := ∃ y, y < x ∧ bP n N b y = true ∧ flR (spW n y) b = W
theorem met_new {n N b x : Nat} (hx : x < 2 ^ n) : ¬ MetS n N b x (flR (spW n x) b) := by
  rintro ⟨y, hy, _, he⟩
  have h1 := up_fl (spW_ok n y) b
  have h2 := up_fl (spW_ok n x) b
  rw [he, h2] at h1
  have := spW_inj n x y hx (by omega) h1
  omega
theorem met_all {n N b y : Nat} (h : aQ n N b y = true) : MetS n N b (2 ^ n) (spW n y) := by
  unfold aQ at h
  simp only [Bool.and_eq_true, decide_eq_true_eq] at h
  have hok := spW_ok n y
  obtain ⟨z, hz1, hz2⟩ := spW_of (upR (spW n y) b) (upR_ok hok b)
  rw [upR_len, spW_len] at hz1 hz2
  refine ⟨z, hz1, ?_, by rw [hz2, fl_up hok]⟩
  unfold bP pcW
  rw [hz2, bad_up hok, h.2, Bool.and_true, decide_eq_true_eq, count_up hok b h.2]
  have := h.1
  unfold pcW at this
  omega
theorem met_step {n N b x : Nat} (W : Word) : MetS n N b (x + 1) W ↔ MetS n N b x W ∨ (bP n N b x = true ∧ flR (spW n x) b = W) := by
  constructor
  · rintro ⟨y, hy, h1, h2⟩
    by_cases hyx : y = x
    · subst hyx; exact Or.inr ⟨h1, h2⟩
    · exact Or.inl ⟨y, by omega, h1, h2⟩
  · rintro (⟨y, hy, h⟩ | h)
    · exact ⟨y, by omega, h⟩
    · exact ⟨x, by omega, h⟩
theorem bP_is {n N b x : Nat} (h : pcW n x = N) : bP n N b x = decide (¬ lacksT (spW n x) b < 0) := by
  unfold bP
  rw [decide_eq_true h, Bool.true_and, bad_iff (spW_ok n x)]
theorem bP_no {n N b x : Nat} (h : pcW n x ≠ N) : bP n N b x = false := by
  unfold bP
  rw [decide_eq_false h, Bool.false_and]
end Go.Proofs.YtfcfhiekkpflcaaDoor
