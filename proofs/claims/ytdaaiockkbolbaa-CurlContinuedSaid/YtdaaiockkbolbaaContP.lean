/- Plain facts on words that are continued: all clear ones, the first one, its beginnings. -/
import Derived.Test.YtdaaiockkbolbaaThueP
import Derived.Test.YtdaaiockkbolbaaRefLonger
namespace Go.Proofs.Ytdaaiockkbolbaa
open Go.RowKit
/-- all clear words that begin with a word and are j letters longer -/
def clX (s : ByteArray) (k : Nat) : Nat → List ByteArray
  | 0 => [s]
  | j + 1 => (clX s k j).flatMap fun t => clE t k
theorem clX_ext {s : ByteArray} (h : cleanS (bts s) = true) (k L : Nat) : (clX s k L).map bts = (extW k L (bts s)).filter cleanS := by
  induction L with
  | zero => simp [clX, extW, h]
  | succ L ih =>
    rw [← ext_snoc, filter_flat, ← flat_filter cleanS, ← ih, clX, List.map_flatMap, List.flatMap_map]
    · congr 1
      funext t
      rw [clE, extB, List.range_eq_range', List.filter_map, List.map_map, List.filter_map]
      congr 1
    · intro y hy
      rw [List.filter_eq_nil_iff]
      intro z hz hc
      obtain ⟨j, _, rfl⟩ := List.mem_map.1 hz
      exact hy (clean_pre hc)
theorem clX_len (s : ByteArray) (k : Nat) (hk : k ≤ 4) (L : Nat) : (clX s k L).length ≤ 4 ^ L := by
  induction L with
  | zero => simp [clX]
  | succ L ih =>
    have := clF_len (clX s k L) hk
    rw [clX, Nat.pow_succ]
    omega
theorem clX_mem {s : ByteArray} {k : Nat} (L : Nat) : ∀ t ∈ clX s k L, ∃ z : Word, bts t = bts s ++ z ∧ z.length = L ∧ (k ≤ 4 → lettersS z k = true) := by
  induction L with
  | zero => intro t ht; simp [clX] at ht; subst ht; exact ⟨[], by simp, rfl, fun _ => rfl⟩
  | succ L ih =>
    intro t ht
    rw [clX, List.mem_flatMap] at ht
    obtain ⟨u, hu, hx⟩ := ht
    have hx := (List.mem_filter.1 hx).1
    simp only [extB, List.mem_map, List.mem_range] at hx
    obtain ⟨j, hj, rfl⟩ := hx
    obtain ⟨z, hz, hl, hlet⟩ := ih u hu
    refine ⟨z ++ [(97 + j).toUInt8], ?_, by simp [hl], fun h4 => ?_⟩
    · rw [bts_append, hz, List.append_assoc]; rfl
    · have := hlet h4
      simp only [lettersS, List.all_append, List.all_cons, List.all_nil, Bool.and_true, Bool.and_eq_true] at this ⊢
      refine ⟨this, ?_⟩
      rw [Nat.toUInt8, UInt8.toNat_ofNat', Nat.mod_eq_of_lt (by omega)]
      simp only [decide_eq_true_eq]
      omega
theorem clX_clean {s : ByteArray} {k : Nat} (h : cleanS (bts s) = true) (L : Nat) : ∀ t ∈ clX s k L, cleanS (bts t) = true := by
  intro t ht
  have : bts t ∈ (clX s k L).map bts := List.mem_map_of_mem ht
  rw [clX_ext h] at this
  exact (List.mem_filter.1 this).2
theorem lon_head {s : ByteArray} (h : cleanS (bts s) = true) (k L : Nat) : lonR k L (bts s) = ((clX s k L).head?).map bts := by
  rw [lon_ext k L _ h, ← clX_ext h, List.head?_map]
theorem first_some {f : Word → Option Word} {x y : Word} {l : Word} (h : firstL f x l = some y) : ∃ c, f (x ++ [c]) = some y := by
  induction l with
  | nil => cases h
  | cons c l ih =>
    simp only [firstL] at h
    cases hf : f (x ++ [c]) with
    | some z => rw [hf] at h; exact ⟨c, by rw [hf]; exact h⟩
    | none => rw [hf] at h; exact ih h
theorem lonR_pre (n m : Nat) : ∀ x y, lonR n m x = some y → ∃ z, y = x ++ z := by
  induction m with
  | zero => intro x y h; simp [lonR] at h; exact ⟨[], by simp [h]⟩
  | succ m ih =>
    intro x y h
    rw [lonR] at h
    obtain ⟨c, hc⟩ := first_some h
    obtain ⟨z, rfl⟩ := ih _ _ hc
    exact ⟨c :: z, by simp⟩
/-- the smallest continuation is that of its own beginnings -/
theorem lon_take (n : Nat) (j : Nat) : ∀ m x y, lonR n m x = some y → j ≤ m → lonR n (m - j) (y.take (x.length + j)) = some y := by
  induction j with
  | zero =>
    intro m x y h _
    obtain ⟨z, rfl⟩ := lonR_pre n m x y h
    rw [Nat.add_zero, List.take_left', Nat.sub_zero]
    · exact h
    · rfl
  | succ j ih =>
    intro m x y h hj
    obtain ⟨m, rfl⟩ : ∃ d, m = d + 1 := ⟨m - 1, by omega⟩
    rw [lonR] at h
    obtain ⟨c, hc⟩ := first_some h
    have := ih m _ _ hc (by omega)
    rw [show m + 1 - (j + 1) = m - j by omega, show x.length + (j + 1) = (x ++ [c]).length + j by simp; omega]
    exact this
theorem letters_pre {x z : Word} {n : Int} (h : lettersS (x ++ z) n = true) : lettersS x n = true := by
  simp only [lettersS, List.all_append, Bool.and_eq_true] at h ⊢
  exact h.1
theorem letters_four {x : Word} {k : Nat} (hk : k ≤ 4) (h : lettersS x (k : Int) = true) : lettersS x 4 = true := by
  simp only [lettersS, List.all_eq_true, Bool.and_eq_true, decide_eq_true_eq] at h ⊢
  intro b hb
  have := h b hb
  omega
theorem beg_ok {x : Word} {k : Nat} (h1 : 1 ≤ k) (hk : k ≤ 4) (hl : lettersS x (k : Int) = true) (hx : x.length ≤ 600) (hc : cleanS x = true) : begE x (k : Int) = 0 := by
  have h4 := letters_four hk hl
  unfold begE chkW
  rw [if_neg (show ¬ 600 < x.length by omega), if_pos h4, if_neg (by simp), if_neg (by omega), if_neg (by simp [hl]), if_neg (by simp [hc])]
theorem long_at {x : Word} {k m d : Nat} (h1 : 1 ≤ k) (hk : k ≤ 4) (hl : lettersS x (k : Int) = true) (hc : cleanS x = true) (hd : x.length + m = d) (h40 : d ≤ 40) :
    longV x (k : Int) (d : Int) = (lonR k m x).getD [] ∧ longE x (k : Int) (d : Int) = if (lonR k m x).isSome then 0 else 12 := by
  have hb := beg_ok h1 hk hl (by omega) hc
  rw [longV_go, longE_go]
  unfold longVR longER
  have e : ((d : Int) - x.length).toNat = m := by omega
  rw [hb, if_neg (by first | omega | simp), if_neg (by first | omega | simp), if_neg (by first | omega | simp), if_neg (by first | omega | simp), e]
  exact ⟨rfl, rfl⟩
theorem next_at {x : Word} {k : Nat} (h1 : 1 ≤ k) (hk : k ≤ 4) (hl : lettersS x (k : Int) = true) (hx : x.length ≤ 600) (hc : cleanS x = true) : nextV x (k : Int) = nextP x k := by
  rw [next_go, nextVR, if_pos (beg_ok h1 hk hl hx hc)]
  rfl
/-- what is returned for a word, and for the beginnings of what is returned -/
theorem cont_some {s t : ByteArray} {k m d : Nat} {r : List ByteArray} (h1 : 1 ≤ k) (hk : k ≤ 4) (hl : lettersS (bts s) (k : Int) = true) (hc : cleanS (bts s) = true) (hd : s.size + m = d) (h40 : d ≤ 40) (hX : clX s k m = t :: r) :
    t.size = d ∧ ∀ i, s.size ≤ i → i ≤ d → longV ((bts t).take i) (k : Int) (d : Int) = bts t ∧ longE ((bts t).take i) (k : Int) (d : Int) = 0 := by
  have hl0 := lon_head hc k m
  rw [hX] at hl0
  have hl1 : lonR k m (bts s) = some (bts t) := hl0
  have hm : t ∈ clX s k m := by rw [hX]; simp
  obtain ⟨z, hz, hzl, hlet⟩ := clX_mem m t hm
  have hcl := clX_clean hc m t hm
  have hlt : lettersS (bts t) (k : Int) = true := by
    have := hlet hk
    rw [hz]
    simp only [lettersS, List.all_append, Bool.and_eq_true] at this hl ⊢
    exact ⟨hl, this⟩
  have hsz : t.size = d := by rw [← bts_len, hz, List.length_append, bts_len, hzl, hd]
  refine ⟨hsz, fun i hi hid => ?_⟩
  have ht := lon_take k (i - s.size) m _ _ hl1 (by omega)
  rw [bts_len, show s.size + (i - s.size) = i by omega, show m - (i - s.size) = d - i by omega] at ht
  have hsplit := (List.take_append_drop i (bts t))
  have hlp : lettersS ((bts t).take i) (k : Int) = true := letters_pre (z := (bts t).drop i) (by rw [hsplit]; exact hlt)
  have hcp : cleanS ((bts t).take i) = true := clean_pre (z := (bts t).drop i) (by rw [hsplit]; exact hcl)
  obtain ⟨q1, q2⟩ := long_at h1 hk hlp hcp (m := d - i) (d := d) (by rw [List.length_take, bts_len, hsz]; omega) h40
  rw [ht] at q1 q2
  exact ⟨q1, q2⟩
theorem cont_none {s : ByteArray} {k m d : Nat} (h1 : 1 ≤ k) (hk : k ≤ 4) (hl : lettersS (bts s) (k : Int) = true) (hc : cleanS (bts s) = true) (hd : s.size + m = d) (h40 : d ≤ 40) (hX : clX s k m = []) :
    longV (bts s) (k : Int) (d : Int) = [] ∧ longE (bts s) (k : Int) (d : Int) = 12 := by
  have hl0 := lon_head hc k m
  rw [hX] at hl0
  obtain ⟨q1, q2⟩ := long_at h1 hk hl hc (m := m) (d := d) (by rw [bts_len]; exact hd) h40
  rw [hl0] at q1 q2
  exact ⟨q1, q2⟩
end Go.Proofs.Ytdaaiockkbolbaa
