/- Plain: a rule whose words are all of one size keeps all clear words clear if it keeps those of at most three letters clear. -/
import Derived.Test.YtdaaiockkbolbaaCountP
namespace Go.Proofs.Ytdaaiockkbolbaa
open Go.RowKit
theorem sq_iff {l : Word} {a k : Nat} : sqAt l a k = true ↔ ∀ i, i < k → l[a + i]? = l[a + k + i]? := by
  unfold sqAt
  rw [beq_iff_eq]
  constructor
  · intro e i hi
    have := congrArg (fun m : Word => m[i]?) e
    simpa [List.getElem?_take, hi] using this
  · intro e
    apply List.ext_getElem?
    intro i
    by_cases hi : i < k
    · simpa [List.getElem?_take, hi] using e i hi
    · simp [List.getElem?_take, hi]
theorem unclean_iff {l : Word} : cleanS l = false ↔ ∃ a k, 1 ≤ k ∧ a + 2 * k ≤ l.length ∧ ∀ i, i < k → l[a + i]? = l[a + k + i]? := by
  rw [← tw_clean]
  constructor
  · intro h
    cases ht : twL l with
    | nil => rw [ht] at h; cases h
    | cons p r =>
      obtain ⟨a, k⟩ := p
      have : (a, k) ∈ twL l := by rw [ht]; simp
      obtain ⟨h1, h2, h3⟩ := tw_mem.1 this
      exact ⟨a, k, h1, h2, sq_iff.1 h3⟩
  · rintro ⟨a, k, h1, h2, h3⟩
    have : (a, k) ∈ twL l := tw_mem.2 ⟨h1, h2, sq_iff.2 h3⟩
    cases ht : twL l with
    | nil => rw [ht] at this; cases this
    | cons p r => rfl
section
variable {ws : List ByteArray} {n K : Nat} (hlen : ws.length = n) (hk : ∀ t ∈ ws, t.size = K)
include hlen hk
theorem word_len {b : UInt8} (h : 97 ≤ b.toNat ∧ (b.toNat : Int) ≤ 96 + n) : (wordOf ws b).length = K := by
  unfold wordOf
  rw [bts_len, List.getD, List.getElem?_eq_getElem (by omega)]
  exact hk _ (List.getElem_mem _)
theorem put_at {t : Nat} (ht : t < K) : ∀ (x : Word) (j : Nat), lettersS x (n : Int) = true → (putS ws x)[j * K + t]? = (x[j]?).bind fun b => (wordOf ws b)[t]? := by
  intro x
  induction x with
  | nil => intro j _; simp [putS]
  | cons b x ih =>
    intro j h
    simp only [lettersS, List.all_cons, Bool.and_eq_true, decide_eq_true_eq] at h
    have hw := word_len hlen hk h.1
    have e : putS ws (b :: x) = wordOf ws b ++ putS ws x := by simp [putS]
    rw [e]
    cases j with
    | zero => rw [Nat.zero_mul, Nat.zero_add, List.getElem?_append_left (by omega)]; rfl
    | succ j =>
      rw [Nat.succ_mul, List.getElem?_append_right (by omega), hw, show j * K + K + t - K = j * K + t by omega]
      exact ih j (by simp only [lettersS]; exact h.2)
end
/-- the letter at a place of the word for a letter -/
def gw (ws : List ByteArray) (b : UInt8) (t : Nat) : Option UInt8 := (wordOf ws b)[t]?
/-- what a rule keeps: words of two and of three letters -/
structure Kept (ws : List ByteArray) (n K : Nat) : Prop where
  len : ws.length = n
  size : ∀ t ∈ ws, t.size = K
  K1 : 1 ≤ K
  small : ∀ x : Word, lettersS x (n : Int) = true → cleanS x = true → x.length ≤ 3 → cleanS (putS ws x) = true
def okL (n : Nat) (b : UInt8) : Prop := 97 ≤ b.toNat ∧ (b.toNat : Int) ≤ 96 + n
theorem letters2 {n : Nat} {a b : UInt8} (ha : okL n a) (hb : okL n b) : lettersS [a, b] (n : Int) = true := by
  simp only [lettersS, List.all_cons, List.all_nil, Bool.and_true, Bool.and_eq_true, decide_eq_true_eq]
  exact ⟨ha, hb⟩
theorem clean2 {a b : UInt8} (h : a ≠ b) : cleanS [a, b] = true := by
  rw [← Bool.not_eq_false, unclean_iff]
  rintro ⟨p, k, h1, h2, h3⟩
  simp only [List.length_cons, List.length_nil] at h2
  obtain ⟨rfl, rfl⟩ : p = 0 ∧ k = 1 := by omega
  have := h3 0 (by omega)
  simp at this
  exact h this
theorem clean3 {a b c : UInt8} (h : a ≠ b) (h' : b ≠ c) : cleanS [a, b, c] = true := by
  rw [← Bool.not_eq_false, unclean_iff]
  rintro ⟨p, k, h1, h2, h3⟩
  simp only [List.length_cons, List.length_nil] at h2
  have hk : k = 1 := by omega
  subst hk
  have := h3 0 (by omega)
  rcases (show p = 0 ∨ p = 1 by omega) with rfl | rfl
  · simp at this; exact h this
  · simp at this; exact h' this
section
variable {ws : List ByteArray} {n K : Nat} (h : Kept ws n K)
include h
theorem Kept.two {a b : UInt8} (ha : okL n a) (hb : okL n b) (hne : a ≠ b) : ∀ p k, 1 ≤ k → p + 2 * k ≤ 2 * K → ¬ ∀ i, i < k → (putS ws [a, b])[p + i]? = (putS ws [a, b])[p + k + i]? := by
  intro p k h1 h2 h3
  have hl := letters2 ha hb
  have hp : (putS ws [a, b]).length = 2 * K := putS_long h.len h.size hl
  have := h.small [a, b] hl (clean2 hne) (by simp)
  rw [unclean_iff.2 ⟨p, k, h1, by omega, h3⟩] at this
  cases this
theorem Kept.at2 {a b : UInt8} (ha : okL n a) (hb : okL n b) {t : Nat} (ht : t < K) : (putS ws [a, b])[t]? = gw ws a t ∧ (putS ws [a, b])[K + t]? = gw ws b t := by
  have h0 := put_at h.len h.size ht [a, b] 0 (letters2 ha hb)
  have h1 := put_at h.len h.size ht [a, b] 1 (letters2 ha hb)
  rw [Nat.zero_mul, Nat.zero_add] at h0
  rw [Nat.one_mul] at h1
  exact ⟨h0, h1⟩
/-- different letters have different words -/
theorem Kept.inj {a b : UInt8} (ha : okL n a) (hb : okL n b) (he : ∀ t, t < K → gw ws a t = gw ws b t) : a = b := by
  by_cases hne : a = b
  · exact hne
  · refine absurd ?_ (h.two ha hb hne 0 K h.K1 (by omega))
    intro i hi
    rw [Nat.zero_add, Nat.zero_add, (h.at2 ha hb hi).1, (h.at2 ha hb hi).2]
    exact he i hi
/-- no word lies across two others -/
theorem Kept.mis {a b c : UInt8} {r : Nat} (ha : okL n a) (hb : okL n b) (hc : okL n c) (hbc : b ≠ c) (hr0 : 0 < r) (hrK : r < K) (h1 : ∀ t, t < K - r → gw ws a t = gw ws b (r + t)) (h2 : ∀ t, t < r → gw ws a (K - r + t) = gw ws c t) : False := by
  by_cases hab : b = a
  · subst hab
    refine h.two hb hc hbc (K - r) r hr0 (by omega) fun i hi => ?_
    rw [(h.at2 hb hc (show K - r + i < K by omega)).1, show K - r + r + i = K + i by omega, (h.at2 hb hc (show i < K by omega)).2]
    exact h2 i hi
  · refine h.two hb ha hab r (K - r) (by omega) (by omega) fun i hi => ?_
    rw [(h.at2 hb ha (show r + i < K by omega)).1, show r + (K - r) + i = K + i by omega, (h.at2 hb ha (show i < K by omega)).2]
    exact (h1 i hi).symm
end
theorem clean_suf {b : UInt8} {y : Word} (h : cleanS (b :: y) = true) : cleanS y = true := by
  rw [← Bool.not_eq_false] at h ⊢
  intro hy
  obtain ⟨a, k, h1, h2, h3⟩ := unclean_iff.1 hy
  refine h (unclean_iff.2 ⟨a + 1, k, h1, by simp; omega, fun i hi => ?_⟩)
  rw [show a + 1 + i = a + i + 1 by omega, show a + 1 + k + i = a + k + i + 1 by omega, List.getElem?_cons_succ, List.getElem?_cons_succ]
  exact h3 i hi
/-- Thue, Bean, Ehrenfeucht, McNulty, Crochemore -/
theorem thue {ws : List ByteArray} {n K : Nat} (h : Kept ws n K) : ∀ (m : Nat) (x : Word), x.length = m → lettersS x (n : Int) = true → cleanS x = true → cleanS (putS ws x) = true := by
  intro m
  induction m using Nat.strongRecOn with
  | ind m ih =>
    intro x hm hl hc
    by_cases hm3 : m ≤ 3
    · exact h.small x hl hc (by omega)
    rw [← Bool.not_eq_false]
    intro hun
    obtain ⟨p, q, hq1, hpq, hsq⟩ := unclean_iff.1 hun
    have hHl : (putS ws x).length = m * K := by rw [putS_long h.len h.size hl, hm]
    rw [hHl] at hpq
    have hK1 := h.K1
    -- the square begins in the first word
    have hpK : p < K := by
      rcases Nat.lt_or_ge p K with h1 | h1
      · exact h1
      · exfalso
        cases x with
        | nil => simp at hm; omega
        | cons b y =>
          have hl2 : (97 ≤ b.toNat ∧ (b.toNat : Int) ≤ 96 + n) ∧ lettersS y (n : Int) = true := by
            simp only [lettersS, List.all_cons, Bool.and_eq_true, decide_eq_true_eq] at hl
            exact ⟨hl.1, by simp only [lettersS]; exact hl.2⟩
          have hw := word_len h.len h.size hl2.1
          have e : putS ws (b :: y) = wordOf ws b ++ putS ws y := by simp [putS]
          have hyl : y.length + 1 = m := by simpa using hm
          have hy := ih y.length (by omega) y rfl hl2.2 (clean_suf hc)
          have hpl := putS_long h.len h.size hl2.2
          have hmK : m * K = y.length * K + K := by rw [← hyl, Nat.succ_mul]
          refine absurd hy ?_
          rw [Bool.not_eq_true, unclean_iff]
          refine ⟨p - K, q, hq1, by omega, fun i hi => ?_⟩
          have := hsq i hi
          rw [e, List.getElem?_append_right (by omega), List.getElem?_append_right (by omega), hw] at this
          rwa [show p + i - K = p - K + i by omega, show p + q + i - K = p - K + q + i by omega] at this
    -- and ends in the last one
    have hpe : (m - 1) * K < p + 2 * q := by
      rcases Nat.lt_or_ge ((m - 1) * K) (p + 2 * q) with h1 | h1
      · exact h1
      · exfalso
        have hsplit : x = x.take (m - 1) ++ x.drop (m - 1) := (List.take_append_drop _ _).symm
        have htl : (x.take (m - 1)).length = m - 1 := by rw [List.length_take]; omega
        have hl2 := letters_part hl (m - 1)
        have hy := ih (m - 1) (by omega) (x.take (m - 1)) htl hl2 (clean_pre (z := x.drop (m - 1)) (by rw [List.take_append_drop]; exact hc))
        have hpl := putS_long h.len h.size hl2
        rw [htl] at hpl
        refine absurd hy ?_
        rw [Bool.not_eq_true, unclean_iff]
        refine ⟨p, q, hq1, by omega, fun i hi => ?_⟩
        have := hsq i hi
        rw [hsplit, putS_append, List.getElem?_append_left (by omega), List.getElem?_append_left (by omega)] at this
        exact this
    obtain ⟨A, hA⟩ : ∃ A : Nat → UInt8, ∀ j, j < m → x[j]? = some (A j) := ⟨fun j => (x[j]?).getD 0, fun j hj => by
      show x[j]? = some ((x[j]?).getD 0)
      rw [List.getElem?_eq_getElem (by omega)]; rfl⟩
    have hok : ∀ j, j < m → okL n (A j) := fun j hj => by
      have := (List.all_eq_true.1 hl) (A j) (List.mem_of_getElem? (hA j hj))
      simpa [okL] using this
    have F : ∀ j t, j < m → t < K → (putS ws x)[j * K + t]? = gw ws (A j) t := fun j t hj ht => by
      rw [put_at h.len h.size ht x j hl, hA j hj]; rfl
    have nosq : ∀ a k, 1 ≤ k → a + 2 * k ≤ m → (∀ i, i < k → A (a + i) = A (a + k + i)) → False := fun a k h1 h2 h3 => by
      have : cleanS x = false := unclean_iff.2 ⟨a, k, h1, by omega, fun i hi => by rw [hA _ (by omega), hA _ (by omega), h3 i hi]⟩
      rw [hc] at this; cases this
    have hadj : ∀ j, j + 1 < m → A j ≠ A (j + 1) := fun j hj he => nosq j 1 (by omega) (by omega) (fun i hi => by
      obtain rfl : i = 0 := by omega
      exact he)
    obtain ⟨d, hd⟩ : ∃ d, q / K = d := ⟨_, rfl⟩
    obtain ⟨r, hr⟩ : ∃ r, q % K = r := ⟨_, rfl⟩
    have hqd : q = d * K + r := by
      have := Nat.div_add_mod q K
      rw [hd, hr, Nat.mul_comm] at this
      exact this.symm
    have hrK : r < K := by rw [← hr]; exact Nat.mod_lt _ hK1
    clear hd hr
    have hm1 : m * K = (m - 1) * K + K := by
      conv => lhs; rw [show m = (m - 1) + 1 by omega, Nat.succ_mul]
    have hm2 : (m - 1) * K = (m - 2) * K + K := by
      conv => lhs; rw [show m - 1 = (m - 2) + 1 by omega, Nat.succ_mul]
    by_cases hr0 : r = 0
    · subst hr0
      have hd1 : 1 ≤ d := by
        rcases Nat.eq_zero_or_pos d with h0 | h0
        · rw [h0, Nat.zero_mul] at hqd; omega
        · exact h0
      have h2d : 2 * d ≤ m := Nat.le_of_mul_le_mul_right (by rw [Nat.mul_assoc]; omega : 2 * d * K ≤ m * K) hK1
      have hm2d : m - 1 < 2 * d + 1 := Nat.lt_of_mul_lt_mul_right (a := K) (by rw [Nat.succ_mul, Nat.mul_assoc]; omega)
      rcases (show m = 2 * d ∨ m = 2 * d + 1 by omega) with he | he
      · have hp0 : p = 0 := by
          have : m * K = 2 * (d * K) := by rw [he, Nat.mul_assoc]
          omega
        subst hp0
        refine nosq 0 d hd1 (by omega) fun j hj => ?_
        refine h.inj (hok _ (by omega)) (hok _ (by omega)) fun t ht => ?_
        rw [← F (0 + j) t (by omega) ht, ← F (0 + d + j) t (by omega) ht]
        have hjd : j * K + K ≤ d * K := by rw [← Nat.succ_mul]; exact Nat.mul_le_mul_right _ hj
        have := hsq (j * K + t) (by omega)
        rw [Nat.zero_add, Nat.zero_add] at this ⊢
        rw [this, Nat.add_mul]
        congr 1
        omega
      · have hmid : ∀ j, 1 ≤ j → j < d → A j = A (d + j) := fun j h1 hj => by
          refine h.inj (hok _ (by omega)) (hok _ (by omega)) fun t ht => ?_
          rw [← F j t (by omega) ht, ← F (d + j) t (by omega) ht]
          have hjd : j * K + K ≤ d * K := by rw [← Nat.succ_mul]; exact Nat.mul_le_mul_right _ hj
          have hj1 : K ≤ j * K := by have := Nat.mul_le_mul_right K h1; omega
          have := hsq (j * K + t - p) (by omega)
          rw [show p + (j * K + t - p) = j * K + t by omega] at this
          rw [this, Nat.add_mul]
          congr 1
          omega
        have hleft : ∀ t, p ≤ t → t < K → gw ws (A 0) t = gw ws (A d) t := fun t h1 ht => by
          have hdK : K ≤ d * K := by have := Nat.mul_le_mul_right K hd1; omega
          rw [← F 0 t (by omega) ht, ← F d t (by omega) ht]
          have := hsq (t - p) (by omega)
          rw [show p + (t - p) = t by omega] at this
          rw [Nat.zero_mul, Nat.zero_add, this]
          congr 1
          omega
        have hright : ∀ t, t < p → gw ws (A d) t = gw ws (A (2 * d)) t := fun t h1 => by
          have hdK : K ≤ d * K := by have := Nat.mul_le_mul_right K hd1; omega
          rw [← F d t (by omega) (by omega), ← F (2 * d) t (by omega) (by omega)]
          have := hsq (d * K + t - p) (by omega)
          rw [show p + (d * K + t - p) = d * K + t by omega] at this
          rw [this, Nat.mul_assoc]
          congr 1
          omega
        by_cases e1 : A 0 = A d
        · refine nosq 0 d hd1 (by omega) fun j hj => ?_
          rw [Nat.zero_add, Nat.zero_add]
          rcases Nat.eq_zero_or_pos j with rfl | hj0
          · exact e1
          · exact hmid j hj0 hj
        · by_cases e2 : A d = A (2 * d)
          · refine nosq 1 d hd1 (by omega) fun j hj => ?_
            rcases Nat.lt_or_ge (1 + j) d with h1 | h1
            · rw [hmid (1 + j) (by omega) h1]; congr 1; omega
            · rw [show 1 + j = d by omega, e2]; congr 1; omega
          · have hl3 : lettersS [A 0, A d, A (2 * d)] (n : Int) = true := by
              simp only [lettersS, List.all_cons, List.all_nil, Bool.and_true, Bool.and_eq_true, decide_eq_true_eq]
              exact ⟨hok 0 (by omega), hok d (by omega), hok (2 * d) (by omega)⟩
            have hc3 := h.small [A 0, A d, A (2 * d)] hl3 (clean3 e1 e2) (by simp)
            have hp3 : (putS ws [A 0, A d, A (2 * d)]).length = 3 * K := putS_long h.len h.size hl3
            have g0 : ∀ t, t < K → (putS ws [A 0, A d, A (2 * d)])[t]? = gw ws (A 0) t := fun t ht => by
              have := put_at h.len h.size ht [A 0, A d, A (2 * d)] 0 hl3
              rwa [Nat.zero_mul, Nat.zero_add] at this
            have g1 : ∀ t, t < K → (putS ws [A 0, A d, A (2 * d)])[K + t]? = gw ws (A d) t := fun t ht => by
              have := put_at h.len h.size ht [A 0, A d, A (2 * d)] 1 hl3
              rwa [Nat.one_mul] at this
            have g2 : ∀ t, t < K → (putS ws [A 0, A d, A (2 * d)])[2 * K + t]? = gw ws (A (2 * d)) t := fun t ht => put_at h.len h.size ht [A 0, A d, A (2 * d)] 2 hl3
            have : cleanS (putS ws [A 0, A d, A (2 * d)]) = false := unclean_iff.2 ⟨p, K, hK1, by omega, fun i hi => by
              by_cases hpi : p + i < K
              · rw [g0 _ hpi, show p + K + i = K + (p + i) by omega, g1 _ hpi]
                exact hleft _ (by omega) hpi
              · rw [show p + i = K + (p + i - K) by omega, g1 _ (by omega), show p + K + i = 2 * K + (p + i - K) by omega, g2 _ (by omega)]
                exact hright _ (by omega)⟩
            rw [hc3] at this; cases this
    · have hr1 : 0 < r := by omega
      have hm4 : 2 * K ≤ (m - 2) * K := Nat.mul_le_mul_right _ (by omega)
      by_cases hB : 2 * K ≤ p + q
      · have hd2 : d + 2 < m := Nat.lt_of_mul_lt_mul_right (a := K) (by rw [Nat.add_mul]; omega)
        refine h.mis (hok 1 (by omega)) (hok (d + 1) (by omega)) (hok (d + 2) hd2) (hadj (d + 1) hd2) hr1 hrK (fun t ht => ?_) (fun t ht => ?_)
        · rw [← F 1 t (by omega) (by omega), ← F (d + 1) (r + t) (by omega) (by omega)]
          have := hsq (K + t - p) (by omega)
          rw [show p + (K + t - p) = K + t by omega] at this
          rw [Nat.one_mul, this, Nat.add_mul, Nat.one_mul]
          congr 1
          omega
        · rw [← F 1 (K - r + t) (by omega) (by omega), ← F (d + 2) t (by omega) (by omega)]
          have := hsq (K + (K - r + t) - p) (by omega)
          rw [show p + (K + (K - r + t) - p) = K + (K - r + t) by omega] at this
          rw [Nat.one_mul, this, Nat.add_mul]
          congr 1
          omega
      · have hde : d + 1 ≤ m - 2 := by
          have h1 : d * K < (m - 2) * K := by omega
          exact Nat.lt_of_mul_lt_mul_right h1
        obtain ⟨e, he⟩ : ∃ e, m = e + d + 3 := ⟨m - 3 - d, by omega⟩
        have hmK : (m - 2) * K = e * K + d * K + K := by rw [show m - 2 = e + d + 1 by omega, Nat.add_mul, Nat.add_mul, Nat.one_mul]
        refine h.mis (r := K - r) (hok (m - 2) (by omega)) (hok e (by omega)) (hok (e + 1) (by omega)) (hadj e (by omega)) (by omega) (by omega) (fun t ht => ?_) (fun t ht => ?_)
        · rw [← F (m - 2) t (by omega) (by omega), ← F e (K - r + t) (by omega) (by omega)]
          have := hsq ((m - 2) * K + t - p - q) (by omega)
          rw [show p + q + ((m - 2) * K + t - p - q) = (m - 2) * K + t by omega] at this
          rw [← this]
          congr 1
          omega
        · rw [← F (m - 2) (K - (K - r) + t) (by omega) (by omega), ← F (e + 1) t (by omega) (by omega)]
          have := hsq ((m - 2) * K + (K - (K - r) + t) - p - q) (by omega)
          rw [show p + q + ((m - 2) * K + (K - (K - r) + t) - p - q) = (m - 2) * K + (K - (K - r) + t) by omega] at this
          rw [← this, Nat.succ_mul]
          congr 1
          omega
end Go.Proofs.Ytdaaiockkbolbaa
