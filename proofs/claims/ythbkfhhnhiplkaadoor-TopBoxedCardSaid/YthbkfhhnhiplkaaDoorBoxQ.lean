/- Plain: what was tried for TopBoxed, size by size. -/
import Derived.Test.YthbkfhhnhiplkaaDoorBoxP
import Derived.Test.YthbkfhhnhiplkaaDoorBoxK
namespace Go.Proofs.YthbkfhhnhiplkaaDoor
namespace Bx
theorem box_at {c n : Nat} (hc : c ≤ 4) (hn : n ≤ 4) : boxAll c n = true := by
  have h := box_all
  rw [List.all_eq_true] at h
  have h1 := h c (List.mem_range.2 (by omega))
  rw [List.all_eq_true] at h1
  exact h1 n (List.mem_range.2 (by omega))
structure Box (c n : Nat) : Prop where
  e1 : Ti.cntE c n n = 0
  v1 : Ti.cntV c n n = (boxN c n : Int)
  lo : 1 ≤ boxN c n
  hi : boxN c n ≤ 70
  one : ∀ k, k < boxN c n → boxOne c n k = true
  nod : ((List.range (boxN c n)).map (keyB c n)).Nodup
  e0 : Ti.cntE c n 0 = 0
  v0 : Ti.cntV c n 0 = (cntG c n (boxN c n) : Int)
theorem box_of {c n : Nat} (hc : c ≤ 4) (hn : n ≤ 4) : Box c n := by
  have h := box_at hc hn
  unfold boxAll at h
  simp only [Bool.and_eq_true, decide_eq_true_eq, List.all_eq_true, List.mem_range] at h
  obtain ⟨⟨⟨⟨⟨⟨h1, h2⟩, h3⟩, h4⟩, h5⟩, h6⟩, h7⟩ := h
  have hN : (boxN c n : Int) = Ti.cntV c n n := by unfold boxN; omega
  exact ⟨h1, hN.symm, by omega, by omega, h4, h5, h6, h7⟩
structure One (c n k : Nat) : Prop where
  e : Ti.atE c n n k = 0
  len : (ordW c n k).length = c + n
  dv : Bu.Div (divL (ordW c n k))
  tu : turnedN (divL (ordW c n k)) (divL (ordW c n k)).length = divL (backL (ordW c n k))
  la : decide (Ti.lackE (ordW c n k) 0 = 12) = fitsL c n (divL (ordW c n k))
  nu : numD (divL (ordW c n k)) (divL (ordW c n k)).sum ≤ 1000000
theorem one_of {c n k : Nat} (h : boxOne c n k = true) : One c n k := by
  unfold boxOne divOk at h
  simp only [Bool.and_eq_true, decide_eq_true_eq, beq_iff_eq] at h
  obtain ⟨⟨⟨⟨⟨h1, h2⟩, ⟨h3, h4⟩, h5⟩, h6⟩, h7⟩, h8⟩ := h
  exact ⟨h1, h2, ⟨h3, h4, h5⟩, h6, h7, h8⟩
/-- the keys that were met: those of the first k orders -/
def MetB (c n k : Nat) (a b : Nat) : Prop := ∃ y, y < k ∧ keyB c n y = (a, b)
theorem met_new {c n k : Nat} (h : Box c n) (hk : k < boxN c n) : ¬ MetB c n k (keyB c n k).1 (keyB c n k).2 := by
  rintro ⟨y, hy, he⟩
  have hp := List.pairwise_iff_getElem.1 h.nod y k (by simp; omega) (by simpa using hk) hy
  simp only [List.getElem_map, List.getElem_range] at hp
  exact hp he
theorem met_step {c n k a b : Nat} : MetB c n (k + 1) a b ↔ MetB c n k a b ∨ keyB c n k = (a, b) := by
  constructor
  · rintro ⟨y, hy, he⟩
    by_cases h : y = k
    · subst h; exact Or.inr he
    · exact Or.inl ⟨y, by omega, he⟩
  · rintro (⟨y, hy, he⟩ | he)
    · exact ⟨y, by omega, he⟩
    · exact ⟨k, by omega, he⟩
theorem key_le {c n k : Nat} (h : One c n k) : (keyB c n k).1 ≤ 1000000 ∧ (keyB c n k).2 ≤ 1000000 := ⟨Nat.le_trans h.dv.sum (by omega), h.nu⟩
theorem len_le {c n k : Nat} (hc : c ≤ 4) (hn : n ≤ 4) (h : One c n k) : (ordW c n k).length ≤ 8 := by rw [h.len]; omega
end Bx
end Go.Proofs.YthbkfhhnhiplkaaDoor
