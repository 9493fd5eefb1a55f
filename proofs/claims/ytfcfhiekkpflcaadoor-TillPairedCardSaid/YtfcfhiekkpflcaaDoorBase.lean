/- Words of bytes; orders of customers: errors, steps, the first one for whom change lacks. -/
import Derived.Test.YtfcfhiekkpflcaaDoorKit
import Derived.Test.YtfcfhiekkpflcaaDoorChecked
namespace Go.Proofs.YtfcfhiekkpflcaaDoor
open Go.RowKit
abbrev Word := List UInt8
def bts (s : ByteArray) : Word := s.data.toList
theorem bts_len (s : ByteArray) : (bts s).length = s.size := Array.length_toList
theorem bts_inj {s t : ByteArray} (h : bts s = bts t) : s = t := by
  obtain ⟨a⟩ := s
  obtain ⟨b⟩ := t
  exact congrArg ByteArray.mk (Array.toList_inj.1 h)
theorem bts_mk (l : Word) : bts ⟨l.toArray⟩ = l := by simp [bts]
theorem mk_bts (s : ByteArray) : (⟨(bts s).toArray⟩ : ByteArray) = s := bts_inj (bts_mk _)
theorem bts_extract (s : ByteArray) (a b : Nat) : bts (s.extract a b) = ((bts s).take b).drop a := by
  simp [bts, List.drop_take]
theorem bts_append (s t : ByteArray) : bts (s ++ t) = bts s ++ bts t := by simp [bts]
theorem bts_at (s : ByteArray) (k : Nat) (h : k < s.size) : (bts s)[k]? = some s[k] := by
  have h1 : k < s.data.size := h
  show s.data.toList[k]? = some (s.data[k])
  rw [Array.getElem?_toList, Array.getElem?_eq_getElem h1]
/-- the error of an order -/
def okT (l : Word) : Bool := l.all fun b => b == 99 || b == 110
def chkT (l : Word) : Int := if 16 < l.length then 3 else if okT l then 0 else 10
def opT (l : Word) (b : Int) : Int := if chkT l ≠ 0 then chkT l else if 0 ≤ b ∧ b ≤ 20 then 0 else 1
/-- coins after a customer -/
def stp (b : Int) (c : UInt8) : Int := if c = 99 then b + 1 else b - 1
def stepsT (b : Int) : Word → List Int
  | [] => []
  | c :: l => stp b c :: stepsT (stp b c) l
def endT (b : Int) (l : Word) : Int := l.foldl stp b
theorem steps_len (l : Word) : ∀ b, (stepsT b l).length = l.length := by
  induction l with
  | nil => intro b; rfl
  | cons c l ih => intro b; simp [stepsT, ih]
theorem steps_snoc (l : Word) (c : UInt8) : ∀ b, stepsT b (l ++ [c]) = stepsT b l ++ [stp (endT b l) c] := by
  induction l with
  | nil => intro b; rfl
  | cons d l ih => intro b; simp only [List.cons_append, stepsT, ih]; rfl
theorem end_snoc (l : Word) (c : UInt8) (b : Int) : endT b (l ++ [c]) = stp (endT b l) c := by simp [endT]
theorem end_bound (l : Word) : ∀ b, b - l.length ≤ endT b l ∧ endT b l ≤ b + l.length := by
  induction l with
  | nil => intro b; simp [endT]
  | cons c l ih =>
    intro b
    have := ih (stp b c)
    have e : endT b (c :: l) = endT (stp b c) l := rfl
    rw [e]
    have h : b - 1 ≤ stp b c ∧ stp b c ≤ b + 1 := by unfold stp; split <;> omega
    simp only [List.length_cons]
    omega
theorem steps_get (l : Word) : ∀ (b : Int) (i : Nat), i < l.length → (stepsT b l)[i]? = some (endT b (l.take (i + 1))) := by
  induction l with
  | nil => intro b i h; simp at h
  | cons c l ih =>
    intro b i h
    cases i with
    | zero => rfl
    | succ i =>
      rw [stepsT, List.getElem?_cons_succ, ih _ i (by simpa using h)]
      rfl
theorem steps_bound {l : Word} {b x : Int} (h : x ∈ stepsT b l) : b - l.length ≤ x ∧ x ≤ b + l.length := by
  obtain ⟨i, hi, he⟩ := List.getElem_of_mem h
  have hi' : i < l.length := by rwa [steps_len] at hi
  have h1 := steps_get l b i hi'
  rw [List.getElem?_eq_getElem hi, he] at h1
  injection h1 with h1
  have := end_bound (l.take (i + 1)) b
  rw [← h1, List.length_take] at this
  omega
/-- the first customer for whom change lacks, or -1 -/
def negI (xs : List Int) (i : Nat) : Int := match xs with
  | [] => -1
  | x :: r => if x < 0 then i else negI r (i + 1)
def lacksT (l : Word) (b : Int) : Int := negI (stepsT b l) 0
theorem negI_bound (xs : List Int) : ∀ i, negI xs i = -1 ∨ ((i : Int) ≤ negI xs i ∧ negI xs i < i + xs.length) := by
  induction xs with
  | nil => intro i; left; rfl
  | cons x r ih =>
    intro i
    rw [negI]
    split
    · right; simp only [List.length_cons]; omega
    · rcases ih (i + 1) with h | h
      · left; exact h
      · right; simp only [List.length_cons]; omega
theorem okT_at {l : Word} (h : okT l = true) {c : UInt8} (hc : c ∈ l) : c = 99 ∨ c = 110 := by
  have := (List.all_eq_true.1 h) c hc
  simpa using this
theorem chkT_zero {l : Word} (h : chkT l = 0) : l.length ≤ 16 ∧ okT l = true := by
  unfold chkT at h
  split at h
  · omega
  · split at h
    · exact ⟨by omega, by assumption⟩
    · omega
theorem opT_zero {l : Word} {b : Int} (h : opT l b = 0) : chkT l = 0 ∧ 0 ≤ b ∧ b ≤ 20 := by
  unfold opT at h
  split at h
  · contradiction
  · rename_i h0
    split at h
    · rename_i h1; exact ⟨by simpa using h0, h1⟩
    · omega
end Go.Proofs.YtfcfhiekkpflcaaDoor
