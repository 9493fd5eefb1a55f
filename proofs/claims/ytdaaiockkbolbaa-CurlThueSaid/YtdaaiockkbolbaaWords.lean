/- Words as lists of bytes: what the program and the reference reckon. No program in sight. -/
import Derived.Test.YtdaaiockkbolbaaKit
import Derived.Lib.Strings
import Derived.Laws.Strings
namespace Go.Proofs.Ytdaaiockkbolbaa
open Go.RowKit
abbrev Word := List UInt8
/-- the bytes of a string -/
def bts (s : ByteArray) : Word := s.data.toList
theorem bts_len (s : ByteArray) : (bts s).length = s.size := Array.length_toList
theorem bts_inj {s t : ByteArray} (h : bts s = bts t) : s = t := by
  cases s; cases t
  have := Array.toList_inj.1 h
  simp only at this
  rw [this]
theorem bts_extract (s : ByteArray) (a b : Nat) : bts (s.extract a b) = ((bts s).take b).drop a := by
  unfold bts
  rw [ByteArray.data_extract, Array.toList_extract, List.extract_eq_take_drop, List.drop_take]
theorem bts_at (s : ByteArray) (k : Nat) (h : k < s.size) : (bts s)[k]? = some s[k] := by
  unfold bts
  rw [Array.getElem?_toList]
  exact Array.getElem?_eq_getElem h
/-- whether a word ends with two equal parts of so many letters -/
def tailEq (l : Word) (k : Nat) : Bool := l.drop (l.length - k) == (l.take (l.length - k)).drop (l.length - 2 * k)
theorem tail_go (s : ByteArray) {k u v : Nat} (hu : u + k = s.size) (hv : v + 2 * k = s.size) : ((s.extract u s.size).toList == (s.extract v u).toList) = tailEq (bts s) k := by
  rw [ByteArray.toList_eq, ByteArray.toList_eq]
  show (bts (s.extract u s.size) == bts (s.extract v u)) = _
  rw [bts_extract, bts_extract, tailEq, bts_len]
  rw [show s.size - k = u by omega, show s.size - 2 * k = v by omega]
  rw [List.take_of_length_le (by rw [bts_len]; exact Nat.le_refl _)]
/-- the last letter of each part -/
theorem tail_last {s : ByteArray} {k p q : Nat} (hk : 1 ≤ k) (hn : 2 * k ≤ s.size) (hq : q + 1 = s.size) (hp : p + k = q) (hql : q < s.size) (hpl : p < s.size) (hne : s[p] ≠ s[q]) : tailEq (bts s) k = false := by
  rw [Bool.eq_false_iff]
  intro h
  have h2 := eq_of_beq h
  have h3 := congrArg (fun l : Word => l[k - 1]?) h2
  simp only [List.getElem?_drop, List.getElem?_take, bts_len] at h3
  rw [if_pos (by omega), show s.size - k + (k - 1) = q by omega, show s.size - 2 * k + (k - 1) = p by omega, bts_at _ _ hql, bts_at _ _ hpl] at h3
  exact hne (Option.some.inj h3).symm
/-- the size of the smallest repeat with which a word ends, or 0 -/
def endsS (l : Word) : Nat := ((List.range (l.length / 2)).find? fun j => tailEq l (j + 1)).elim 0 (· + 1)
theorem endsS_hit {l : Word} {k : Nat} (h1 : 1 ≤ k) (h2 : 2 * k ≤ l.length) (ht : tailEq l k = true) (hm : ∀ j, 1 ≤ j → j < k → tailEq l j = false) : endsS l = k := by
  unfold endsS
  have : (List.range (l.length / 2)).find? (fun j => tailEq l (j + 1)) = some (k - 1) := by
    rw [List.find?_range_eq_some]
    refine ⟨by rw [show k - 1 + 1 = k by omega]; exact ht, by simp; omega, fun j hj => ?_⟩
    rw [hm (j + 1) (by omega) (by omega)]; rfl
  rw [this]
  show k - 1 + 1 = k
  omega
theorem endsS_none {l : Word} (hm : ∀ j, 1 ≤ j → 2 * j ≤ l.length → tailEq l j = false) : endsS l = 0 := by
  unfold endsS
  have : (List.range (l.length / 2)).find? (fun j => tailEq l (j + 1)) = none := by
    rw [List.find?_range_eq_none]
    intro j hj
    rw [hm (j + 1) (by omega) (by omega)]; rfl
  rw [this]; rfl
theorem endsS_zero {l : Word} (h : endsS l = 0) (j : Nat) (h1 : 1 ≤ j) (h2 : 2 * j ≤ l.length) : tailEq l j = false := by
  unfold endsS at h
  cases hf : (List.range (l.length / 2)).find? (fun j => tailEq l (j + 1)) with
  | some k => rw [hf] at h; simp at h
  | none =>
    rw [List.find?_range_eq_none] at hf
    have := hf (j - 1) (by omega)
    rw [show j - 1 + 1 = j by omega] at this
    simpa using this
theorem endsS_pos {l : Word} (h : 0 < endsS l) : 2 * endsS l ≤ l.length ∧ tailEq l (endsS l) = true ∧ ∀ j, 1 ≤ j → j < endsS l → tailEq l j = false := by
  unfold endsS at h ⊢
  cases hf : (List.range (l.length / 2)).find? (fun j => tailEq l (j + 1)) with
  | none => rw [hf] at h; simp at h
  | some k =>
    rw [List.find?_range_eq_some] at hf
    obtain ⟨h1, h2, h3⟩ := hf
    have h2' : k < l.length / 2 := by simpa using h2
    show 2 * (k + 1) ≤ l.length ∧ tailEq l (k + 1) = true ∧ _
    refine ⟨by omega, h1, fun j hj1 hj2 => ?_⟩
    have hj2' : j < k + 1 := hj2
    have := h3 (j - 1) (by omega)
    rw [show j - 1 + 1 = j by omega] at this
    simpa using this
/-- where the first repeat ends, behind some letters that are known to be clear, and its size -/
def repS (l : Word) (known : Nat) : Nat × Nat := ((List.range' (known + 1) (l.length - known)).find? fun e => decide (0 < endsS (l.take e))).elim (0, 0) fun e => (e, endsS (l.take e))
theorem repS_hit {l : Word} {e : Nat} (h1 : 1 ≤ e) (h2 : e ≤ l.length) (hp : 0 < endsS (l.take e)) (hm : ∀ j, 1 ≤ j → j < e → endsS (l.take j) = 0) : repS l 0 = (e, endsS (l.take e)) := by
  have : (List.range' (0 + 1) (l.length - 0)).find? (fun e => decide (0 < endsS (l.take e))) = some e := by
    rw [List.find?_range'_eq_some]
    refine ⟨by simpa using hp, by simp; omega, fun j hj1 hj2 => ?_⟩
    have := hm j (by omega) hj2
    simp [this]
  unfold repS
  rw [this]; rfl
theorem repS_none {l : Word} (hm : ∀ j, 1 ≤ j → j ≤ l.length → endsS (l.take j) = 0) : repS l 0 = (0, 0) := by
  have : (List.range' (0 + 1) (l.length - 0)).find? (fun e => decide (0 < endsS (l.take e))) = none := by
    rw [List.find?_range'_eq_none]
    intro j hj1 hj2
    have := hm j (by omega) (by omega)
    simp [this]
  unfold repS
  rw [this]; rfl
theorem repS_le (l : Word) : (repS l 0).1 ≤ l.length ∧ 2 * (repS l 0).2 ≤ (repS l 0).1 := by
  unfold repS
  cases hf : (List.range' (0 + 1) (l.length - 0)).find? (fun e => decide (0 < endsS (l.take e))) with
  | none => exact ⟨Nat.zero_le _, Nat.zero_le _⟩
  | some e =>
    rw [List.find?_range'_eq_some] at hf
    obtain ⟨h1, h2, _⟩ := hf
    have h3 : 0 < endsS (l.take e) := by simpa using h1
    have h4 := (endsS_pos h3).1
    have h5 : e ≤ l.length := by simp at h2; omega
    rw [List.length_take, Nat.min_eq_left h5] at h4
    exact ⟨h5, h4⟩
theorem take_size (s : ByteArray) (e : Nat) (h : e ≤ s.size) : (s.extract 0 e).size = e := by rw [ByteArray.size_extract]; omega
theorem bts_take (s : ByteArray) (e : Nat) : bts (s.extract 0 e) = (bts s).take e := by rw [bts_extract, List.drop_zero]
def cleanS (l : Word) : Bool := (repS l 0).2 == 0
/-- place and size of the repeat that ends first, as the reference says it -/
def repR (l : Word) : Nat × Nat := if (repS l 0).2 = 0 then (0, 0) else ((repS l 0).1 - 2 * (repS l 0).2, (repS l 0).2)
theorem repR_hit {l : Word} {e k : Nat} (h : repS l 0 = (e, k)) (hk : 0 < k) : repR l = (e - 2 * k, k) := by
  unfold repR
  rw [h]
  exact if_neg (by show ¬ k = 0; omega)
theorem repR_none {l : Word} (h : repS l 0 = (0, 0)) : repR l = (0, 0) := by unfold repR; rw [h]; rfl
theorem tail_go2 (s : ByteArray) {e k u v : Nat} (he : e ≤ s.size) (hu : u + k = e) (hv : v + 2 * k = e) : ((s.extract u e).toList == (s.extract v u).toList) = tailEq ((bts s).take e) k := by
  rw [ByteArray.toList_eq, ByteArray.toList_eq]
  show (bts (s.extract u e) == bts (s.extract v u)) = _
  rw [bts_extract, bts_extract, tailEq, List.length_take, bts_len, Nat.min_eq_left he]
  rw [show e - k = u by omega, show e - 2 * k = v by omega, List.take_take, Nat.min_eq_left (by omega)]
theorem ends_short {l : Word} (h : l.length ≤ 1) : endsS l = 0 := endsS_none (fun j h1 h2 => by omega)
/-- whether all letters are of the first n -/
def lettersS (l : Word) (n : Int) : Bool := l.all fun b => decide (97 ≤ b.toNat) && decide ((b.toNat : Int) ≤ 96 + n)
/-- the highest letter -/
def highN : Word → Nat
  | [] => 0
  | b :: l => max (b.toNat - 96) (highN l)
def highS (l : Word) : Int := if lettersS l 4 then (highN l : Int) else -1
theorem highN_snoc (l : Word) (b : UInt8) : highN (l ++ [b]) = max (highN l) (b.toNat - 96) := by
  induction l with
  | nil => simp [highN]
  | cons c l ih => simp only [List.cons_append, highN, ih]; omega
theorem highN_le {l : Word} (h : lettersS l 4 = true) : highN l ≤ 4 := by
  induction l with
  | nil => simp [highN]
  | cons c l ih =>
    simp only [lettersS, List.all_cons, Bool.and_eq_true, decide_eq_true_eq] at h
    have := ih (by simp only [lettersS]; exact h.2)
    simp only [highN]; omega
theorem letters_take {l : Word} {k : Nat} {b : UInt8} {n : Int} (h : lettersS (l.take k) n = true) (hb : l[k]? = some b) (h1 : 97 ≤ b.toNat) (h2 : (b.toNat : Int) ≤ 96 + n) : lettersS (l.take (k + 1)) n = true := by
  rw [List.take_add_one, hb, lettersS, List.all_append]
  simp only [Option.toList_some, List.all_cons, List.all_nil, Bool.and_true, Bool.and_eq_true, decide_eq_true_eq]
  exact ⟨h, h1, h2⟩
theorem letters_no {l : Word} {k : Nat} {b : UInt8} {n : Int} (hb : l[k]? = some b) (h : ¬ (97 ≤ b.toNat ∧ (b.toNat : Int) ≤ 96 + n)) : lettersS l n = false := by
  rw [Bool.eq_false_iff]
  intro ha
  have := (List.all_eq_true.1 ha) b (List.mem_of_getElem? hb)
  simp only [Bool.and_eq_true, decide_eq_true_eq] at this
  exact h this
theorem high_over {l : Word} {n : Int} (h : lettersS l 4 = true) (h1 : 1 ≤ n) (h2 : n ≤ 4) : lettersS l n = decide ((highN l : Int) ≤ n) := by
  induction l with
  | nil => exact (decide_eq_true (show ((0 : Nat) : Int) ≤ n by omega)).symm
  | cons c l ih =>
    simp only [lettersS, List.all_cons, Bool.and_eq_true, decide_eq_true_eq] at h
    have := ih (by simp only [lettersS]; exact h.2)
    have e : lettersS (c :: l) n = ((decide (97 ≤ c.toNat) && decide ((c.toNat : Int) ≤ 96 + n)) && lettersS l n) := rfl
    obtain ⟨H, hH⟩ : ∃ H, highN (c :: l) = H := ⟨_, rfl⟩
    have hm : max (c.toNat - 96) (highN l) = H := hH
    rw [e, this, hH, Bool.eq_iff_iff]
    simp only [Bool.and_eq_true, decide_eq_true_eq]
    omega
/-! errors -/
def chkW (l : Word) : Int := if 600 < l.length then 3 else if lettersS l 4 then 0 else 10
theorem chkW_zero {l : Word} (h : chkW l = 0) : l.length ≤ 600 ∧ lettersS l 4 = true := by
  unfold chkW at h
  split at h
  · omega
  · split at h
    · exact ⟨by omega, by assumption⟩
    · omega
def begE (l : Word) (n : Int) : Int := if chkW l ≠ 0 then chkW l else if ¬ (1 ≤ n ∧ n ≤ 4) then 1 else if lettersS l n = false then 2 else if cleanS l = false then 14 else 0
def repE (l : Word) : Int := if chkW l ≠ 0 then chkW l else if cleanS l then 12 else 0
def repV (l : Word) : Nat × Nat := if repE l = 0 then repR l else (0, 0)
end Go.Proofs.Ytdaaiockkbolbaa
