/- What the reference reckons, on plain lists: no program in sight. -/
import Derived.Test.YtjhcemhnnkcjaaaDoorNext
import Derived.Test.YtjhcemhnnkcjaaaDoorWay
import Derived.Test.YtjhcemhnnkcjaaaDoorTimes
import Derived.Test.YtjhcemhnnkcjaaaDoorTurnsP
namespace Go.Proofs.YtjhcemhnnkcjaaaDoor
/-- how many rings are on -/
def cntS : List Int → Nat
  | [] => 0
  | x :: xs => x.toNat + cntS xs
theorem numS_cnt (xs : List Int) : numS xs % 2 = cntS xs % 2 := by
  induction xs with
  | nil => rfl
  | cons x xs ih => simp only [numS, cntS]; omega
theorem numS_cons (x : Int) (xs : List Int) : numS (x :: xs) = 2 * numS xs + cntS (x :: xs) % 2 := by
  have := numS_cnt xs
  simp only [numS, cntS]; omega
theorem cnt_le {xs : List Int} (h : bin xs) : cntS xs ≤ xs.length := by
  induction xs with
  | nil => simp [cntS]
  | cons x xs ih =>
    obtain ⟨hx, h'⟩ := bin_cons h
    have := ih h'
    simp only [cntS, List.length_cons]
    rcases hx with rfl | rfl <;> simp <;> omega
theorem drop_at {xs : List Int} {k : Nat} {x : Int} (h : xs[k]? = some x) : xs.drop k = x :: xs.drop (k + 1) := by
  obtain ⟨hl, hx⟩ := List.getElem?_eq_some_iff.1 h
  rw [List.drop_eq_getElem_cons hl, hx]
theorem bin_drop {xs : List Int} (h : bin xs) (k : Nat) : bin (xs.drop k) := fun x hx => h x (List.mem_of_mem_drop hx)
theorem num_step {xs : List Int} {k : Nat} {x : Int} (h : xs[k]? = some x) : cntS (xs.drop k) = x.toNat + cntS (xs.drop (k + 1)) ∧ numS (xs.drop k) = 2 * numS (xs.drop (k + 1)) + cntS (xs.drop k) % 2 := by
  rw [drop_at h]
  exact ⟨rfl, numS_cons _ _⟩
theorem num_drop_lt {xs : List Int} (h : bin xs) (h16 : xs.length ≤ 16) (k : Nat) : cntS (xs.drop k) ≤ 16 ∧ numS (xs.drop k) < 65536 := by
  have h1 := cnt_le (bin_drop h k)
  have h2 := numS_lt (xs.drop k)
  rw [List.length_drop] at h1 h2
  have h3 : 2 ^ (xs.length - k) ≤ 2 ^ 16 := Nat.pow_le_pow_right (by omega) (by omega)
  have h4 : (2 : Nat) ^ 16 = 65536 := rfl
  exact ⟨by omega, by omega⟩

/-- the ring that leads nearer: the first one that can be moved and does not lead farther -/
theorem next_stop {xs : List Int} {b : Nat} (hb : bin xs) (hne : numS xs ≠ b) (hlt : b < 2 ^ xs.length) :
    nextS (numS xs) b < xs.length ∧ canS xs (nextS (numS xs) b) = true ∧ numS (moveS xs (nextS (numS xs) b)) = stepTo (numS xs) b ∧
    ∀ k, k < xs.length → canS xs k = true → k ≠ nextS (numS xs) b → distS (numS xs) b < distS (numS (moveS xs k)) b := by
  have hl := numS_lt xs
  unfold nextS stepTo
  by_cases h : numS xs < b
  · obtain ⟨c1, c2, c3⟩ := line_up xs hb (by omega)
    simp only [if_pos h]
    refine ⟨c2, c1, c3, fun k hk hc hK => ?_⟩
    rcases line_step xs hb k hk hc with ⟨_, e⟩ | ⟨e1, e2⟩
    · exact absurd e hK
    · unfold distS; omega
  · obtain ⟨c1, c2, c3⟩ := line_down xs hb (by omega)
    simp only [if_neg h]
    refine ⟨c2, c1, by omega, fun k hk hc hK => ?_⟩
    rcases line_step xs hb k hk hc with ⟨e1, _⟩ | ⟨_, e⟩
    · unfold distS; omega
    · exact absurd e hK
theorem step_near {a b : Nat} (h : a ≠ b) : distS (stepTo a b) b + 1 = distS a b := by unfold distS stepTo; split <;> omega

/-- one move more on the line: just one ring's digit is another one -/
theorem times_at {lo n k : Nat} (h : lo ≤ n) :
    ((n + 1) / 2 ^ k - lo / 2 ^ k) - ((n + 1) / 2 ^ (k + 1) - lo / 2 ^ (k + 1)) = ((n / 2 ^ k - lo / 2 ^ k) - (n / 2 ^ (k + 1) - lo / 2 ^ (k + 1))) + (if (n / 2 ^ k + n / 2 ^ (k + 1)) % 2 = ((n + 1) / 2 ^ k + (n + 1) / 2 ^ (k + 1)) % 2 then 0 else 1) := by
  have e : ∀ x, x / 2 ^ (k + 1) = x / 2 ^ k / 2 := fun x => by rw [Nat.pow_succ, Nat.div_div_eq_div_mul]
  have h1 : lo / 2 ^ k ≤ n / 2 ^ k := Nat.div_le_div_right h
  have hs : (n + 1) / 2 ^ k = n / 2 ^ k ∨ (n + 1) / 2 ^ k = n / 2 ^ k + 1 := by
    rw [Nat.succ_div]; split
    · exact Or.inr rfl
    · exact Or.inl rfl
  simp only [e]
  generalize lo / 2 ^ k = L at *
  generalize n / 2 ^ k = X at *
  generalize (n + 1) / 2 ^ k = Y at *
  rcases hs with rfl | rfl <;> split <;> omega
theorem timesN_lo (n lo : Nat) : timesN n lo lo = List.replicate n 0 := by
  apply List.ext_getElem?
  intro k
  by_cases hk : k < n
  · rw [timesN_at hk, List.getElem?_replicate, if_pos hk]; simp
  · rw [List.getElem?_eq_none (by rw [timesN_length]; omega), List.getElem?_eq_none (by simp; omega)]
/-- the counts while the rings of one move are gone through -/
def timesM (r lo n k : Nat) : List Int := (timesN r lo (n + 1)).take k ++ (timesN r lo n).drop k
theorem timesM_zero (r lo n : Nat) : timesM r lo n 0 = timesN r lo n := by simp [timesM]
theorem timesM_end (r lo n : Nat) : timesM r lo n r = timesN r lo (n + 1) := by
  unfold timesM
  rw [List.take_of_length_le (by rw [timesN_length]; exact Nat.le_refl _), List.drop_of_length_le (by rw [timesN_length]; exact Nat.le_refl _), List.append_nil]
theorem timesM_length (r lo n k : Nat) : (timesM r lo n k).length = r := by
  simp only [timesM, List.length_append, List.length_take, List.length_drop, timesN_length]; omega
theorem timesM_at {r lo n k : Nat} (hk : k < r) : (timesM r lo n k)[k]? = (timesN r lo n)[k]? := by
  unfold timesM
  rw [List.getElem?_append_right (by rw [List.length_take]; omega), List.length_take, timesN_length, Nat.min_eq_left (by omega), Nat.sub_self, List.getElem?_drop, Nat.add_zero]
theorem timesM_set {r lo n k : Nat} (hk : k < r) {x : Int} (hx : (timesN r lo (n + 1))[k]? = some x) : (timesM r lo n k).set k x = timesM r lo n (k + 1) := by
  have hd : (timesN r lo n).drop k = ((timesN r lo n)[k]'(by rw [timesN_length]; exact hk)) :: (timesN r lo n).drop (k + 1) := List.drop_eq_getElem_cons _
  unfold timesM
  rw [List.set_append_right _ _ (by rw [List.length_take]; omega), List.length_take, timesN_length, Nat.min_eq_left (by omega), Nat.sub_self, hd, List.set_cons_zero, List.take_add_one, hx]
  simp
theorem timesM_skip {r lo n k : Nat} (hk : k < r) (h : (timesN r lo (n + 1))[k]? = (timesN r lo n)[k]?) : timesM r lo n (k + 1) = timesM r lo n k := by
  obtain ⟨x, hx⟩ : ∃ x, (timesN r lo (n + 1))[k]? = some x := ⟨_, timesN_at hk⟩
  rw [← timesM_set hk hx]
  have h2 := timesM_at (lo := lo) (n := n) hk
  rw [← h, hx] at h2
  obtain ⟨hl, e⟩ := List.getElem?_eq_some_iff.1 h2
  rw [← e, List.set_getElem_self]

/-! pairs -/
def opensN (n m : Nat) : Bool := decide (n ≤ m) && decide ((m - n) % 2 = 0)
theorem few_first (a b : Nat) : (opensN a ((fewN a b + 1) / 2) && opensN b (fewN a b / 2)) = true ∧ ∀ m, m < fewN a b → (opensN a ((m + 1) / 2) && opensN b (m / 2)) = false := by
  unfold fewN opensN
  constructor
  · split <;> simp <;> omega
  · intro m hm
    split at hm
    · rw [Bool.eq_false_iff]; simp; omega
    · rw [Bool.eq_false_iff]; simp; omega
/-- whether the next move leads up, with so many moves of this clasp left after it -/
def upD (R n t : Nat) : Bool := decide (n < 2 ^ R - 1) && decide (n + 1 ≤ t) && (decide (n = 0) || decide (tz (n + 1) < tz n))
theorem upC_upD (R n l : Nat) : upC R n l = upD R n (l / 2) := rfl
def openD (R n t : Nat) : Nat := if upD R n t then tz (n + 1) else tz n
def openTo (R n t : Nat) : Nat := if upD R n t then n + 1 else n - 1
def openGo (R : Nat) : Nat → Nat → List Int
  | 0, _ => []
  | t + 1, n => (openD R n t : Int) :: openGo R t (openTo R n t)
theorem openGo_length (R t n : Nat) : (openGo R t n).length = t := by
  induction t generalizing n with
  | zero => rfl
  | succ t ih => simp [openGo, ih]
theorem turnsGo_at (r : Nat → Nat) (l s : Nat) (hs : s < 2) (a : Nat → Nat) (i : Nat) :
    (turnsGo r l s a)[i]? = if i % 2 = 0 then (openGo (r s) ((l + 1) / 2) (a s))[i / 2]? else (openGo (r (1 - s)) (l / 2) (a (1 - s)))[i / 2]? := by
  induction l generalizing s a i with
  | zero => simp [turnsGo, openGo]
  | succ l ih =>
    have hss : 1 - (1 - s) = s := by omega
    have hne : 1 - s ≠ s := by omega
    have key : ∀ (z : Nat) (a' : Nat → Nat), a' (1 - s) = a (1 - s) → (openD (r s) (a s) (l / 2) = z) → openTo (r s) (a s) (l / 2) = a' s → ((z : Int) :: turnsGo r l (1 - s) a')[i]? = if i % 2 = 0 then (openGo (r s) ((l + 1 + 1) / 2) (a s))[i / 2]? else (openGo (r (1 - s)) ((l + 1) / 2) (a (1 - s)))[i / 2]? := by
      intro z a' h1 h2 h3
      rw [show (l + 1 + 1) / 2 = l / 2 + 1 by omega, openGo, h2, h3]
      cases i with
      | zero => simp
      | succ i =>
        rw [List.getElem?_cons_succ, ih (1 - s) (by omega) a' i, hss, h1]
        rcases Nat.mod_two_eq_zero_or_one i with e | e
        · rw [if_pos e, if_neg (by omega), show (i + 1) / 2 = i / 2 by omega]
        · rw [if_neg (by omega), if_pos (by omega), show (i + 1) / 2 = i / 2 + 1 by omega, List.getElem?_cons_succ]
    cases hu : upC (r s) (a s) l with
    | true =>
      rw [turnsGo_up hu]
      exact key _ _ (by rw [upd, if_neg hne]) (by rw [openD, ← upC_upD, hu]; rfl) (by rw [openTo, ← upC_upD, hu, upd]; simp)
    | false =>
      rw [turnsGo_down hu]
      exact key _ _ (by rw [upd, if_neg hne]) (by rw [openD, ← upC_upD, hu]; rfl) (by rw [openTo, ← upC_upD, hu, upd]; simp)
/-- the ring of an opening: the first one that can be moved to where the clasp can still be opened in so many moves -/
theorem open_stop {xs : List Int} {t : Nat} (hb : bin xs) (h1 : 1 ≤ xs.length) (ho : opensN (numS xs) (t + 1) = true) :
    openD xs.length (numS xs) t < xs.length ∧ canS xs (openD xs.length (numS xs) t) = true ∧ numS (moveS xs (openD xs.length (numS xs) t)) = openTo xs.length (numS xs) t ∧ opensN (openTo xs.length (numS xs) t) t = true ∧
    ∀ k, k < openD xs.length (numS xs) t → canS xs k = true → opensN (numS (moveS xs k)) t = false := by
  have hl := numS_lt xs
  have h2 : 2 ≤ 2 ^ xs.length := two_R h1
  have ho' : numS xs ≤ t + 1 ∧ (t + 1 - numS xs) % 2 = 0 := by simpa [opensN] using ho
  have up := line_up xs hb
  have dn := line_down xs hb
  have st := line_step xs hb
  unfold openD openTo
  cases hu : upD xs.length (numS xs) t with
  | true =>
    have hu' : (numS xs < 2 ^ xs.length - 1 ∧ numS xs + 1 ≤ t) ∧ (numS xs = 0 ∨ tz (numS xs + 1) < tz (numS xs)) := by simpa [upD] using hu
    obtain ⟨c1, c2, c3⟩ := up (by omega)
    simp only [if_true]
    refine ⟨c2, c1, c3, by simp [opensN]; omega, fun k hk hc => ?_⟩
    rcases st k (by omega) hc with ⟨_, e⟩ | ⟨e1, e2⟩
    · omega
    · exfalso; omega
  | false =>
    have hu' : ¬ ((numS xs < 2 ^ xs.length - 1 ∧ numS xs + 1 ≤ t) ∧ (numS xs = 0 ∨ tz (numS xs + 1) < tz (numS xs))) := by
      intro h
      have : upD xs.length (numS xs) t = true := by simpa [upD] using h
      rw [hu] at this; cases this
    have hpos : 0 < numS xs := by omega
    obtain ⟨c1, c2, c3⟩ := dn hpos
    simp only [Bool.false_eq_true, if_false]
    refine ⟨c2, c1, by omega, by simp [opensN]; omega, fun k hk hc => ?_⟩
    rcases st k (by omega) hc with ⟨e1, e2⟩ | ⟨e1, e2⟩
    · rw [Bool.eq_false_iff]
      simp only [opensN, ne_eq, Bool.and_eq_true, decide_eq_true_eq, not_and]
      intro h3
      rw [e1] at h3
      exfalso
      have h4 := numS_lt (moveS xs k)
      rw [moveS_length] at h4
      exact hu' ⟨⟨by omega, h3⟩, Or.inr (by omega)⟩
    · omega
end Go.Proofs.YtjhcemhnnkcjaaaDoor
