/- Plain: how many clear words there are; of three letters there are some of each length up to 40. -/
import Derived.Test.YtdaaiockkbolbaaClears
import Derived.Test.YtdaaiockkbolbaaPlainC
import Derived.Test.YtdaaiockkbolbaaGrowK
namespace Go.Proofs.Ytdaaiockkbolbaa
open Go.RowKit
theorem mem_ext {n : Nat} (hn : n ≤ 4) (z : Word) : ∀ x, lettersS z (n : Int) = true → x ++ z ∈ extW n z.length x := by
  induction z with
  | nil => intro x _; simp [extW]
  | cons b z ih =>
    intro x h
    have hb : (97 ≤ b.toNat ∧ (b.toNat : Int) ≤ 96 + n) ∧ lettersS z (n : Int) = true := by
      simp only [lettersS, List.all_cons, Bool.and_eq_true, decide_eq_true_eq] at h
      exact ⟨h.1, by simp only [lettersS]; exact h.2⟩
    rw [List.length_cons, extW, List.mem_flatMap]
    refine ⟨b.toNat - 97, by rw [List.mem_range'_1]; omega, ?_⟩
    have e : (97 + (b.toNat - 97)).toUInt8 = b := by
      rw [show 97 + (b.toNat - 97) = b.toNat by omega]
      exact UInt8.toNat_inj.1 (by rw [Nat.toUInt8, UInt8.toNat_ofNat']; have := UInt8.toNat_lt b; omega)
    rw [e]
    have := ih (x ++ [b]) hb.2
    rwa [List.append_assoc] at this
theorem len_ext (n m : Nat) : ∀ x y, y ∈ extW n m x → y.length = x.length + m := by
  induction m with
  | zero => intro x y h; simp [extW] at h; rw [h]; rfl
  | succ m ih =>
    intro x y h
    rw [extW, List.mem_flatMap] at h
    obtain ⟨j, _, h⟩ := h
    have := ih _ _ h
    simp at this; omega
theorem sumC_flat (n m : Nat) (x : Word) (h : ∀ c, cleanS (x ++ [c]) = true → cntR n m (x ++ [c]) = ((extW n m (x ++ [c])).filter cleanS).length) (k : Nat) :
    sumC (fun c => if cleanS (x ++ [c]) then cntR n m (x ++ [c]) else 0) k = (((List.range' 0 k).flatMap fun j => extW n m (x ++ [(97 + j).toUInt8])).filter cleanS).length := by
  induction k with
  | zero => rfl
  | succ k ih =>
    rw [sumC, ih, List.range'_1_concat, List.flatMap_append, List.filter_append, List.length_append]
    congr 1
    simp only [List.flatMap_cons, List.flatMap_nil, List.append_nil, Nat.zero_add]
    by_cases hc : cleanS (x ++ [(97 + k).toUInt8]) = true
    · rw [if_pos hc, h _ hc]
    · rw [if_neg hc, ext_clean_none hc]; rfl
theorem cnt_ext (n m : Nat) : ∀ x, cleanS x = true → cntR n m x = ((extW n m x).filter cleanS).length := by
  induction m with
  | zero => intro x h; simp [cntR, extW, h]
  | succ m ih =>
    intro x _
    rw [cntR, sum_next, sumC_flat n m x (fun c hc => ih _ hc), extW]
theorem count_clears {k n : Nat} (hk1 : 1 ≤ k) (hk : k ≤ 4) (hn : n ≤ 10) : countV (k : Int) (n : Int) = ((clB k n).length : Nat) := by
  rw [countV_go, countVR, if_pos ⟨⟨by omega, by omega⟩, by omega, by omega⟩]
  have e := clB_ext k n
  have h1 := cnt_ext k n [] clean_nil
  rw [← e, List.length_map] at h1
  show ((cntR k n [] : Nat) : Int) = _
  rw [h1]
theorem first_flat (n m : Nat) (x : Word) (h : ∀ c, cleanS (x ++ [c]) = true → lonR n m (x ++ [c]) = ((extW n m (x ++ [c])).filter cleanS).head?) (k : Nat) : ∀ j,
    firstL (lonR n m) x (restP x j k) = (((List.range' j k).flatMap fun i => extW n m (x ++ [(97 + i).toUInt8])).filter cleanS).head? := by
  induction k with
  | zero => intro j; rfl
  | succ k ih =>
    intro j
    rw [restP, List.range'_succ, List.flatMap_cons, List.filter_append]
    by_cases hc : cleanS (x ++ [(97 + j).toUInt8]) = true
    · rw [if_pos hc, firstL, h _ hc, ih (j + 1)]
      cases (extW n m (x ++ [(97 + j).toUInt8])).filter cleanS <;> rfl
    · rw [if_neg hc, ext_clean_none hc, ih (j + 1)]; rfl
theorem lon_ext (n m : Nat) : ∀ x, cleanS x = true → lonR n m x = ((extW n m x).filter cleanS).head? := by
  induction m with
  | zero => intro x h; simp [lonR, extW, h]
  | succ m ih =>
    intro x _
    rw [lonR, next_all, first_flat n m x (fun c hc => ih _ hc), extW]
def leech : List ByteArray := [⟨#[97, 98, 99, 98, 97, 99, 98, 99, 97, 98, 99, 98, 97]⟩, ⟨#[98, 99, 97, 99, 98, 97, 99, 97, 98, 99, 97, 99, 98]⟩, ⟨#[99, 97, 98, 97, 99, 98, 97, 98, 99, 97, 98, 97, 99]⟩]
def word40 : Word := growW leech 40
theorem word40_ok : cleanS word40 = true ∧ lettersS word40 3 = true ∧ word40.length = 40 := ⟨by kernel_rfl, by kernel_rfl, by kernel_rfl⟩
theorem letters_more {x : Word} {n m : Int} (h : lettersS x n = true) (hm : n ≤ m) : lettersS x m = true := by
  simp only [lettersS, List.all_eq_true, Bool.and_eq_true, decide_eq_true_eq] at h ⊢
  intro b hb
  have := h b hb
  omega
/-- of three letters and more there are clear words of each length up to 40 -/
theorem some_clear {k d : Nat} (hk : 3 ≤ k) (hk4 : k ≤ 4) (hd : d ≤ 40) : (extW k d []).filter cleanS ≠ [] := by
  obtain ⟨h1, h2, h3⟩ := word40_ok
  have hl : (word40.take d).length = d := by rw [List.length_take, h3]; omega
  have hm := mem_ext hk4 (word40.take d) [] (letters_part (letters_more h2 (by omega)) d)
  rw [hl, List.nil_append] at hm
  have hc : cleanS (word40.take d) = true := clean_pre (z := word40.drop d) (by rw [List.take_append_drop]; exact h1)
  intro h0
  have : word40.take d ∈ (extW k d []).filter cleanS := List.mem_filter.2 ⟨hm, hc⟩
  rw [h0] at this
  cases this
theorem clB_none {k L : Nat} (h : clB k L = []) : ∀ j, clB k (L + j) = [] := by
  intro j
  induction j with
  | zero => exact h
  | succ j ih => rw [← Nat.add_assoc, clB, ih]; rfl
theorem two_none {n : Nat} (h : 4 ≤ n) : clB 2 n = [] := by
  have := clB_none (k := 2) (L := 4) (by kernel_rfl) (n - 4)
  rwa [show 4 + (n - 4) = n by omega] at this
theorem one_none {n : Nat} (h : 2 ≤ n) : clB 1 n = [] := by
  have := clB_none (k := 1) (L := 2) (by kernel_rfl) (n - 2)
  rwa [show 2 + (n - 2) = n by omega] at this
theorem two_some {n : Nat} (h : n ≤ 3) : (clB 2 n).length ≠ 0 := by
  match n, h with
  | 0, _ => decide +kernel
  | 1, _ => decide +kernel
  | 2, _ => decide +kernel
  | 3, _ => decide +kernel
theorem one_some {n : Nat} (h : n ≤ 1) : (clB 1 n).length ≠ 0 := by
  match n, h with
  | 0, _ => decide +kernel
  | 1, _ => decide +kernel
theorem three_some {k n : Nat} (hk : 3 ≤ k) (hk4 : k ≤ 4) (hn : n ≤ 10) : (clB k n).length ≠ 0 := by
  have h := some_clear hk hk4 (show n ≤ 40 by omega)
  rw [← clB_ext] at h
  intro h0
  rw [List.eq_nil_of_length_eq_zero h0] at h
  exact h rfl
/-- Longer from the empty word -/
theorem long_nil {k d : Nat} (hk1 : 1 ≤ k) (hk : k ≤ 4) (hd : d ≤ 40) : longE [] (k : Int) (d : Int) = (if ((extW k d []).filter cleanS) = [] then 12 else 0) ∧ longV [] (k : Int) (d : Int) = (((extW k d []).filter cleanS).head?).getD [] := by
  have hb : begE [] (k : Int) = 0 := by
    unfold begE
    rw [if_neg (by decide), if_neg (fun h => h ⟨by omega, by omega⟩), if_neg (by show ¬ (true = false); decide), if_neg (by decide)]
  have hl : lonR k d [] = ((extW k d []).filter cleanS).head? := lon_ext k d [] clean_nil
  have h1 : ((([] : Word).length : Int) ≤ (d : Int) ∧ (d : Int) ≤ 40) := ⟨by simp, by omega⟩
  have e1 : ((k : Int)).toNat = k := rfl
  have e2 : ((d : Int) - (([] : Word).length : Int)).toNat = d := by simp
  have hE : longER [] (k : Int) (d : Int) = if (lonR k d []).isSome then 0 else 12 := by
    unfold longER
    rw [hb, if_neg (by decide), if_neg (fun h => h h1), e1, e2]
  have hV : longVR [] (k : Int) (d : Int) = (lonR k d []).getD [] := by
    unfold longVR
    rw [hb, if_neg (by decide), if_neg (fun h => h h1), e1, e2]
  rw [longE_go, longV_go, hE, hV, hl]
  constructor
  · cases (extW k d []).filter cleanS <;> rfl
  · rfl
theorem long_word {k d : Nat} (hk : 3 ≤ k) (hk4 : k ≤ 4) (hd : d ≤ 40) : longE [] (k : Int) (d : Int) = 0 ∧ (longV [] (k : Int) (d : Int)).length = d ∧ cleanS (longV [] (k : Int) (d : Int)) = true := by
  obtain ⟨h1, h2⟩ := long_nil (show 1 ≤ k by omega) hk4 hd
  have h3 := some_clear hk hk4 hd
  rw [h1, h2, if_neg h3]
  cases hf : (extW k d []).filter cleanS with
  | nil => exact absurd hf h3
  | cons y r =>
    have hy : y ∈ (extW k d []).filter cleanS := by rw [hf]; simp
    obtain ⟨hy1, hy2⟩ := List.mem_filter.1 hy
    have := len_ext k d [] y hy1
    exact ⟨rfl, by simpa using this, hy2⟩
theorem long_few {k n : Nat} (hk1 : 1 ≤ k) (hk : k ≤ 2) (hn : n ≤ 10) : longE [] (k : Int) ((4 * n : Nat) : Int) = if n = 0 then 0 else 12 := by
  rw [(long_nil hk1 (by omega) (show 4 * n ≤ 40 by omega)).1]
  by_cases h0 : n = 0
  · subst h0; rfl
  · rw [if_neg h0, ← clB_ext]
    have hz : clB k (4 * n) = [] := by
      rcases (show k = 1 ∨ k = 2 by omega) with rfl | rfl
      · exact one_none (by omega)
      · exact two_none (by omega)
    rw [hz]; rfl
end Go.Proofs.Ytdaaiockkbolbaa
