/- Plain: steps from another beginning; how many coins are needed; turns; the cycle lemma. -/
import Derived.Test.YtfcfhiekkpflcaaDoorTurns
namespace Go.Proofs.YtfcfhiekkpflcaaDoor
open Go.RowKit
theorem stp_add (b d : Int) (c : UInt8) : stp (b + d) c = stp b c + d := by unfold stp; split <;> omega
theorem steps_add (l : Word) : ∀ b d : Int, stepsT (b + d) l = (stepsT b l).map (· + d) := by
  induction l with
  | nil => intro b d; rfl
  | cons c l ih => intro b d; rw [stepsT, stepsT, stp_add, ih]; rfl
theorem end_add (l : Word) : ∀ b d : Int, endT (b + d) l = endT b l + d := by
  induction l with
  | nil => intro b d; rfl
  | cons c l ih =>
    intro b d
    show endT (stp (b + d) c) l = endT (stp b c) l + d
    rw [stp_add, ih]
theorem end_zero (l : Word) (b : Int) : endT b l = endT 0 l + b := by rw [← end_add, Int.zero_add]
theorem end_append (l m : Word) (b : Int) : endT b (l ++ m) = endT (endT b l) m := by simp [endT]
theorem steps_append (l : Word) : ∀ (m : Word) (b : Int), stepsT b (l ++ m) = stepsT b l ++ stepsT (endT b l) m := by
  induction l with
  | nil => intro m b; rfl
  | cons c l ih => intro m b; simp only [List.cons_append, stepsT, ih]; rfl
theorem negI_iff (xs : List Int) : ∀ i : Nat, negI xs i < 0 ↔ ∀ x ∈ xs, 0 ≤ x := by
  induction xs with
  | nil => intro i; exact ⟨fun _ x hx => (by cases hx), fun _ => by rw [negI]; omega⟩
  | cons y xs ih =>
    intro i
    rw [negI]
    constructor
    · intro h x hx
      split at h
      · omega
      · rcases List.mem_cons.1 hx with rfl | hx
        · omega
        · exact (ih (i + 1)).1 h x hx
    · intro h
      have hy := h y (by simp)
      rw [if_neg (by omega)]
      exact (ih (i + 1)).2 fun x hx => h x (by simp [hx])
theorem lacks_iff (l : Word) (b : Int) : lacksT l b < 0 ↔ ∀ x ∈ stepsT b l, 0 ≤ x := negI_iff _ 0
theorem foldMin_iff (xs : List Int) : ∀ z m : Int, m ≤ xs.foldl min z ↔ m ≤ z ∧ ∀ x ∈ xs, m ≤ x := by
  induction xs with
  | nil => intro z m; simp
  | cons y xs ih =>
    intro z m
    rw [List.foldl_cons, ih]
    constructor
    · rintro ⟨h1, h2⟩
      exact ⟨by omega, fun x hx => by
        rcases List.mem_cons.1 hx with rfl | hx
        · omega
        · exact h2 x hx⟩
    · rintro ⟨h1, h2⟩
      have := h2 y (by simp)
      exact ⟨by omega, fun x hx => h2 x (by simp [hx])⟩
def needN (l : Word) : Int := -((stepsT 0 l).foldl min 0)
theorem need_zero (l : Word) : 0 ≤ needN l := by
  have := ((foldMin_iff (stepsT 0 l) 0 _).1 (Int.le_refl _)).1
  unfold needN; omega
theorem need_le (l : Word) : needN l ≤ l.length := by
  have := (foldMin_iff (stepsT 0 l) 0 (-(l.length : Int))).2 ⟨by omega, fun x hx => by have := steps_bound hx; omega⟩
  unfold needN; omega
/-- an order is good for just as many coins as it needs, and more -/
theorem need_iff (l : Word) (b : Int) (hb : 0 ≤ b) : lacksT l b < 0 ↔ needN l ≤ b := by
  rw [lacks_iff]
  have e : stepsT b l = (stepsT 0 l).map (· + b) := by rw [← steps_add, Int.zero_add]
  have h := foldMin_iff (stepsT 0 l) 0 (-b)
  constructor
  · intro h2
    have := h.2 ⟨by omega, fun x hx => by
      have := h2 (x + b) (by rw [e]; exact List.mem_map.2 ⟨x, hx, rfl⟩)
      omega⟩
    unfold needN; omega
  · intro h2 x hx
    rw [e] at hx
    obtain ⟨y, hy, rfl⟩ := List.mem_map.1 hx
    have := (h.1 (by unfold needN at h2; omega)).2 y hy
    omega
theorem minOf_iff {xs : List Int} (hne : 0 < xs.length) (m : Int) : m ≤ Lib.minOf xs ↔ ∀ x ∈ xs, m ≤ x := by
  cases xs with
  | nil => simp at hne
  | cons y xs =>
    show m ≤ (y :: xs).foldl min y ↔ _
    rw [foldMin_iff]
    exact ⟨fun h => h.2, fun h => ⟨h y (by simp), h⟩⟩
/-- does the order turned by k keep coins -/
def keepsT (l : Word) (keep : Int) (k : Nat) : Bool := (stepsT 0 (l.drop k ++ l.take k)).all fun x => decide (keep ≤ x)
theorem turnP_keeps (l : Word) (keep : Int) {k : Nat} (hk : k < l.length) : turnP (stepsT 0 (l ++ l)) l.length keep k = keepsT l keep k := by
  have hl : l ++ l = l.take k ++ ((l.drop k ++ l.take k) ++ l.drop k) := by
    rw [List.append_assoc, List.take_append_drop, ← List.append_assoc, List.take_append_drop]
  have hlen : (l.drop k ++ l.take k).length = l.length := by simp; omega
  have hX : ((stepsT 0 (l ++ l)).drop k).take l.length = stepsT (endT 0 (l.take k)) (l.drop k ++ l.take k) := by
    rw [hl, steps_append, steps_append, List.drop_append_of_le_length (by rw [steps_len, List.length_take]; omega), List.drop_of_length_le (by rw [steps_len, List.length_take]; omega), List.nil_append,
      List.take_append_of_le_length (by rw [steps_len, hlen]; omega), List.take_of_length_le (by rw [steps_len, hlen]; omega)]
  have hB : befT (stepsT 0 (l ++ l)) k = endT 0 (l.take k) := by
    unfold befT
    by_cases h0 : k = 0
    · subst h0; rfl
    · rw [if_neg h0, List.getD, steps_get _ _ _ (by simp; omega)]
      simp only [Option.getD_some]
      rw [show k - 1 + 1 = k by omega, List.take_append_of_le_length (by omega)]
  unfold turnP keepsT
  rw [hX, hB]
  have e : stepsT (endT 0 (l.take k)) (l.drop k ++ l.take k) = (stepsT 0 (l.drop k ++ l.take k)).map (· + endT 0 (l.take k)) := by rw [← steps_add, Int.zero_add]
  rw [e, Bool.eq_iff_iff, decide_eq_true_iff, List.all_eq_true]
  have hm := minOf_iff (xs := (stepsT 0 (l.drop k ++ l.take k)).map (· + endT 0 (l.take k))) (by rw [List.length_map, steps_len, hlen]; omega) (keep + endT 0 (l.take k))
  constructor
  · intro h x hx
    have := hm.1 (by omega) (x + endT 0 (l.take k)) (List.mem_map.2 ⟨x, hx, rfl⟩)
    exact decide_eq_true (by omega)
  · intro h
    have := hm.2 fun x hx => by
      obtain ⟨y, hy, rfl⟩ := List.mem_map.1 hx
      have := of_decide_eq_true (h y hy)
      omega
    omega
/-- the turns that keep coins, up to one -/
def keepN (l : Word) (keep : Int) (m : Nat) : List Int := ((List.range m).filter (keepsT l keep)).map fun k : Nat => (k : Int)
theorem keepN_succ (l : Word) (keep : Int) (m : Nat) : keepN l keep (m + 1) = keepN l keep m ++ (if keepsT l keep m then [(m : Int)] else []) := by
  unfold keepN
  rw [List.range_succ, List.filter_append, List.map_append]
  congr 1
  by_cases h : keepsT l keep m = true
  · simp [h]
  · simp [h]
theorem keepN_len (l : Word) (keep : Int) (m : Nat) : (keepN l keep m).length ≤ m := by
  unfold keepN
  rw [List.length_map]
  exact Nat.le_trans (List.length_filter_le _ _) (by simp)
theorem turnN_keepN (l : Word) (keep : Int) (m : Nat) (hm : m ≤ l.length) : turnN (stepsT 0 (l ++ l)) l.length keep m = keepN l keep m := by
  unfold turnN keepN
  congr 1
  apply List.filter_congr
  intro k hk
  exact turnP_keeps l keep (by have := List.mem_range.1 hk; omega)
/-- the least of some values -/
def mnF (f : Nat → Int) : Nat → Int
  | 0 => f 0
  | m + 1 => min (mnF f m) (f (m + 1))
theorem mnF_le (f : Nat → Int) : ∀ (N : Nat) (m : Int), m ≤ mnF f N ↔ ∀ j, j ≤ N → m ≤ f j := by
  intro N
  induction N with
  | zero => intro m; exact ⟨fun h j hj => by obtain rfl : j = 0 := by omega
                                             exact h, fun h => h 0 (by omega)⟩
  | succ N ih =>
    intro m
    rw [mnF]
    constructor
    · intro h j hj
      by_cases h1 : j = N + 1
      · subst h1; omega
      · exact (ih m).1 (by omega) j (by omega)
    · intro h
      have h1 := (ih m).2 fun j hj => h j (by omega)
      have h2 := h (N + 1) (by omega)
      omega
theorem mnF_at (f : Nat → Int) : ∀ N : Nat, ∃ j, j ≤ N ∧ mnF f N = f j := by
  intro N
  induction N with
  | zero => exact ⟨0, by omega, rfl⟩
  | succ N ih =>
    obtain ⟨j, hj, e⟩ := ih
    rw [mnF]
    by_cases h : mnF f N ≤ f (N + 1)
    · exact ⟨j, by omega, by omega⟩
    · exact ⟨N + 1, by omega, by omega⟩
theorem mnF_add (f g : Nat → Int) (d : Int) (h : ∀ j, g j = f j + d) : ∀ N, mnF g N = mnF f N + d := by
  intro N
  induction N with
  | zero => exact h 0
  | succ N ih => rw [mnF, mnF, ih, h]; omega
theorem cycle_any (S : Nat → Int) (n : Nat) (d : Int) (hn : 0 < n) (hS : ∀ j, S (j + n) = S j + d) (h1 : ∀ j, S (j + 1) ≤ S j + 1) (p : Nat → Bool) (hp : ∀ k, k < n → (p k = true ↔ ∀ j, j < n → S k + 1 ≤ S (k + 1 + j))) :
    (((List.range n).filter p).length : Int) = max 0 d := by
  by_cases hd : d ≤ 0
  · have : (List.range n).filter p = [] := by
      rw [List.filter_eq_nil_iff]
      intro k hk hpk
      have hk := List.mem_range.1 hk
      have := (hp k hk).1 hpk (n - 1) (by omega)
      rw [show k + 1 + (n - 1) = k + n by omega, hS] at this
      omega
    rw [this]
    simp only [List.length_nil]
    omega
  · have key : ∀ m, m ≤ n → (((List.range m).filter p).length : Int) = mnF (fun j => S (m + j)) (n - 1) - mnF (fun j => S (0 + j)) (n - 1) := by
      intro m
      induction m with
      | zero => intro _; simp
      | succ m ih =>
        intro hm
        have ih := ih (by omega)
        rw [List.range_succ, List.filter_append, List.length_append, Int.natCast_add, ih]
        have hpm := hp m (by omega)
        have a1 := mnF_le (fun j => S (m + j)) (n - 1)
        have a2 := mnF_le (fun j => S (m + 1 + j)) (n - 1)
        have b0 := (a1 _).1 (Int.le_refl _)
        have b1 := (a2 _).1 (Int.le_refl _)
        by_cases hq : p m = true
        · have hg := hpm.1 hq
          have c1 : mnF (fun j => S (m + 1 + j)) (n - 1) = S m + 1 := by
            have u := (a2 (S m + 1)).2 fun j hj => hg j (by omega)
            have v := b1 0 (by omega)
            have := h1 m
            simp only [Nat.add_zero] at v
            omega
          have c2 : mnF (fun j => S (m + j)) (n - 1) = S m := by
            have u := (a1 (S m)).2 fun j hj => by
              cases j with
              | zero => exact Int.le_refl _
              | succ j =>
                have := hg j (by omega)
                rw [show m + 1 + j = m + (j + 1) by omega] at this
                omega
            have v := b0 0 (by omega)
            simp only [Nat.add_zero] at v
            omega
          rw [c1, c2]
          simp only [List.filter_cons, List.filter_nil, hq, if_true, List.length_cons, List.length_nil]
          omega
        · have hng : ∃ j, j < n ∧ S (m + 1 + j) ≤ S m := by
            rcases Classical.em (∃ j, j < n ∧ S (m + 1 + j) ≤ S m) with h | h
            · exact h
            · exact absurd (hpm.2 fun j hj => by
                rcases Int.lt_or_le (S m) (S (m + 1 + j)) with h2 | h2
                · omega
                · exact absurd ⟨j, hj, h2⟩ h) hq
          obtain ⟨j0, hj0, hS0⟩ := hng
          have hlow : mnF (fun j => S (m + 1 + j)) (n - 1) ≤ S m := Int.le_trans (b1 j0 (by omega)) hS0
          have u : mnF (fun j => S (m + j)) (n - 1) ≤ mnF (fun j => S (m + 1 + j)) (n - 1) := by
            refine (a2 _).2 fun j hj => ?_
            by_cases hjn : j = n - 1
            · have := b0 0 (by omega)
              have := hS m
              simp only [Nat.add_zero] at *
              rw [show m + 1 + j = m + n by omega]
              omega
            · have := b0 (j + 1) (by omega)
              rw [show m + 1 + j = m + (j + 1) by omega]
              exact this
          have v : mnF (fun j => S (m + 1 + j)) (n - 1) ≤ mnF (fun j => S (m + j)) (n - 1) := by
            refine (a1 _).2 fun j hj => ?_
            cases j with
            | zero => exact hlow
            | succ j =>
              have h3 : mnF (fun j => S (m + 1 + j)) (n - 1) ≤ S (m + 1 + j) := b1 j (by omega)
              rw [show m + 1 + j = m + (j + 1) by omega] at h3
              exact h3
          simp only [List.filter_cons, List.filter_nil, Bool.not_eq_true] at hq ⊢
          rw [hq]
          simp only [Bool.false_eq_true, if_false, List.length_nil]
          omega
    rw [key n (Nat.le_refl _), mnF_add (fun j => S (0 + j)) (fun j => S (n + j)) d (fun j => by
      show S (n + j) = S (0 + j) + d
      rw [Nat.add_comm n j, hS, Nat.zero_add])]
    omega
/-- coins after some customers, around and around -/
def aroundS (l : Word) : Nat → Int
  | 0 => 0
  | j + 1 => stp (aroundS l j) (l.getD (j % l.length) 0)
theorem around_take (l m : Word) : ∀ (k : Nat), (∀ j, j < m.length → m[j]? = l[(k + j) % l.length]?) → ∀ i, i < m.length → (stepsT (aroundS l k) m)[i]? = some (aroundS l (k + 1 + i)) := by
  induction m with
  | nil => intro k _ i hi; simp at hi
  | cons c m ih =>
    intro k hm i hi
    have h0 := hm 0 (by simp)
    have hs : aroundS l (k + 1) = stp (aroundS l k) c := by
      rw [aroundS, List.getD]
      rw [Nat.add_zero] at h0
      rw [← h0]; rfl
    rw [stepsT, ← hs]
    cases i with
    | zero => rfl
    | succ i =>
      rw [List.getElem?_cons_succ, ih (k + 1) (fun j hj => by
        have := hm (j + 1) (by simp; omega)
        rw [List.getElem?_cons_succ] at this
        rw [this, show k + (j + 1) = k + 1 + j by omega]) i (by simpa using hi), show k + 1 + 1 + i = k + 1 + (i + 1) by omega]
theorem around_rot (l : Word) {k : Nat} (hk : k < l.length) {i : Nat} (hi : i < l.length) : (stepsT 0 (l.drop k ++ l.take k))[i]? = some (aroundS l (k + 1 + i) - aroundS l k) := by
  have hlen : (l.drop k ++ l.take k).length = l.length := by simp; omega
  have h := around_take l (l.drop k ++ l.take k) k (fun j hj => by
    rw [hlen] at hj
    by_cases hjk : k + j < l.length
    · rw [List.getElem?_append_left (by simp; omega), List.getElem?_drop, Nat.mod_eq_of_lt hjk]
    · rw [List.getElem?_append_right (by simp; omega), List.length_drop, List.getElem?_take, if_pos (by omega), Nat.mod_eq_sub_mod (by omega), Nat.mod_eq_of_lt (by omega)]
      congr 1; omega) i (by omega)
  have e : stepsT (aroundS l k) (l.drop k ++ l.take k) = (stepsT 0 (l.drop k ++ l.take k)).map (· + aroundS l k) := by rw [← steps_add, Int.zero_add]
  rw [e, List.getElem?_map] at h
  cases hx : (stepsT 0 (l.drop k ++ l.take k))[i]? with
  | none => rw [hx] at h; simp at h
  | some x =>
    rw [hx] at h
    simp only [Option.map_some, Option.some.injEq] at h
    rw [← h]
    congr 1; omega
theorem around_n (l : Word) : aroundS l l.length = endT 0 l := by
  cases hl : l with
  | nil => rfl
  | cons c m =>
    rw [← hl]
    have hpos : 0 < l.length := by rw [hl]; simp
    have h1 := around_rot l hpos (i := l.length - 1) (by omega)
    have h2 := steps_get l 0 (l.length - 1) (by omega)
    rw [List.drop_zero, List.take_zero, List.append_nil, h2] at h1
    simp only [Option.some.injEq] at h1
    rw [show l.length - 1 + 1 = l.length by omega, List.take_length, show 0 + 1 + (l.length - 1) = l.length by omega] at h1
    rw [h1, aroundS]; omega
theorem around_add (l : Word) : ∀ j, aroundS l (j + l.length) = aroundS l j + endT 0 l := by
  intro j
  induction j with
  | zero => rw [Nat.zero_add, around_n, aroundS]; omega
  | succ j ih =>
    rw [show j + 1 + l.length = (j + l.length) + 1 by omega, aroundS, aroundS, ih, stp_add, Nat.add_mod_right]
/-- of an order with more coins than notes just as many turns keep one coin as there are coins more -/
theorem keep_one (l : Word) : ((keepN l 1 l.length).length : Int) = max 0 (endT 0 l) := by
  rcases Nat.eq_zero_or_pos l.length with h0 | hpos
  · have : l = [] := List.eq_nil_of_length_eq_zero h0
    subst this
    rfl
  · unfold keepN
    rw [List.length_map]
    refine cycle_any (aroundS l) l.length (endT 0 l) hpos (around_add l) (fun j => by rw [aroundS]; unfold stp; split <;> omega) _ fun k hk => ?_
    unfold keepsT
    rw [List.all_eq_true]
    have hlen : (l.drop k ++ l.take k).length = l.length := by simp; omega
    constructor
    · intro h j hj
      have := of_decide_eq_true (h _ (List.mem_of_getElem? (around_rot l hk hj)))
      omega
    · intro h x hx
      obtain ⟨i, hi, he⟩ := List.getElem_of_mem hx
      rw [steps_len, hlen] at hi
      have h2 := around_rot l hk hi
      rw [List.getElem?_eq_getElem (by rw [steps_len, hlen]; exact hi), he] at h2
      simp only [Option.some.injEq] at h2
      have := h i hi
      exact decide_eq_true (by omega)
end Go.Proofs.YtfcfhiekkpflcaaDoor
