/- Plain: TopNested: what the law's loop keeps. -/
import Derived.Test.YthbkfhhnhiplkaaGreatDoorNesT
namespace Go.Proofs.YthbkfhhnhiplkaaGreatDoor
namespace Ns
theorem run_step {l : List UInt8} {i : Nat} {x : UInt8} (h : l[i]? = some x) : runS (l.take (i + 1)) = stepS (runS (l.take i)) x := by
  unfold runS
  rw [List.take_add_one, h, Option.toList_some, List.foldl_append]
  rfl
/-- what a step keeps -/
structure Inv (i : Nat) (s : Stt) : Prop where
  kn : s.kn = s.ts.length + 1
  kl : s.ts.length ≤ i
  ml : s.made.length = i
  al : s.at'.length = i
  ll : s.left ≤ i
  pl : s.path.length ≤ i + 1
  pa : ∃ p, s.path = p ++ [0]
theorem inv_zero : Inv 0 st0 := ⟨rfl, Nat.le_refl _, rfl, rfl, Nat.le_refl _, Nat.le_refl _, [], rfl⟩
/-- a coin ties a knot -/
theorem step_c (s : Stt) : stepS s 99 = ⟨s.kn + 1, s.ts ++ [(s.path.headD 0, s.kn)], s.kn :: s.path, s.made ++ [s.kn], s.left, s.at' ++ [s.kn]⟩ := rfl
theorem step_n (s : Stt) {x : UInt8} (hx : x ≠ 99) : stepS s x = ⟨s.kn, s.ts, s.path.tail, s.made ++ [0], s.left + 1, s.at' ++ [s.path.tail.headD 0]⟩ := if_neg hx
theorem inv_step {i : Nat} {s : Stt} {x : UInt8} (h : Inv i s) (hx : x = 99 ∨ s.path.headD 0 ≠ 0) : Inv (i + 1) (stepS s x) := by
  obtain ⟨h1, h2, h3, h4, h5, h6, p, h7⟩ := h
  by_cases h99 : x = 99
  · subst h99
    rw [step_c]
    exact ⟨by simp [h1], by simp only [List.length_append, List.length_singleton]; omega, by simp [h3], by simp [h4], by simp only []; omega, by simp only [List.length_cons]; omega, s.kn :: p, by simp [h7]⟩
  · rw [step_n s h99]
    have hp : s.path.headD 0 ≠ 0 := by
      rcases hx with hx | hx
      · exact absurd hx h99
      · exact hx
    rw [h7] at hp h6
    cases p with
    | nil => exact absurd rfl hp
    | cons y q =>
      refine ⟨h1, by simp only []; omega, by simp [h3], by simp [h4], by simp only []; omega, ?_, q, by simp [h7]⟩
      simp only [h7, List.cons_append, List.tail_cons]
      simp only [List.cons_append, List.length_cons, List.length_append, List.length_nil] at h6 ⊢
      omega
structure NestP (n k : Nat) : Prop where
  ae : Ti.atE n n 0 k = 0
  len : (ordW n k).length = 2 * n
  ce : Ti.coinE (ordW n k) 0 = 0
  cl : (Ti.coinL (ordW n k) 0).length = 2 * n
  pe : Ti.pairE (ordW n k) = 0
  bl : (Ti.pairL (ordW n k)).length = n
  note : ∀ i x, (ordW n k)[i]? = some x → x = 99 ∨ noteOk (Ti.pairL (ordW n k)) i (runS ((ordW n k).take i)) = true
  path : (runS (ordW n k)).path = [0]
  kn : (runS (ordW n k)).kn = n + 1
  tree : Br.Tree (n + 1) (runS (ordW n k)).ts
  tb : TreeB (n + 1) (Br.woodT (n + 1) (runS (ordW n k)).ts n) (Ti.coinL (ordW n k) 0) (runS (ordW n k)).at'
theorem nestP_of {n k : Nat} (hn : n ≤ 8) (h : nestOk n k = true) : NestP n k := by
  unfold nestOk at h
  simp only [Bool.and_eq_true, decide_eq_true_eq] at h
  obtain ⟨⟨⟨⟨⟨⟨⟨⟨⟨⟨h1, h2⟩, h3⟩, h4⟩, h5⟩, h6⟩, h7⟩, h8⟩, h9⟩, h10⟩, h11⟩ := h
  refine ⟨h1, h2, h3, h4, h5, h6, fun i x hx => ?_, h8, h9, tree_of (by omega) (by omega) h10, treeB_of h11⟩
  unfold notesOk at h7
  simp only [List.all_eq_true, List.mem_range, Bool.or_eq_true, beq_iff_eq] at h7
  have h12 := h7 i (List.getElem?_eq_some_iff.1 hx).1
  rw [List.getD_eq_getElem?_getD, hx] at h12
  exact h12
theorem inv_all {n k : Nat} (h : NestP n k) : ∀ i, i ≤ (ordW n k).length → Inv i (runS ((ordW n k).take i)) := by
  intro i
  induction i with
  | zero => exact fun _ => inv_zero
  | succ i ih =>
    intro hi
    obtain ⟨x, hx⟩ : ∃ x, (ordW n k)[i]? = some x := ⟨_, List.getElem?_eq_getElem (by omega)⟩
    rw [run_step hx]
    refine inv_step (ih (by omega)) ?_
    rcases h.note i x hx with h1 | h1
    · exact Or.inl h1
    · refine Or.inr ?_
      unfold noteOk at h1
      simp only [Bool.and_eq_true, decide_eq_true_eq] at h1
      exact h1.1
/-- what a note asks -/
theorem note_at {back : List (Nat × Nat)} {i : Nat} {s : Stt} (h : noteOk back i s = true) : s.path.headD 0 ≠ 0 ∧ ∃ a, back[s.left]? = some (a, i) ∧ a < i ∧ s.made.getD a 0 = s.path.headD 0 := by
  unfold noteOk at h
  simp only [Bool.and_eq_true, decide_eq_true_eq] at h
  obtain ⟨h1, h2⟩ := h
  refine ⟨h1, ?_⟩
  split at h2
  · next a b hb =>
    simp only [Bool.and_eq_true, decide_eq_true_eq] at h2
    obtain ⟨⟨rfl, h3⟩, h4⟩ := h2
    exact ⟨a, hb, h3, h4⟩
  · cases h2
theorem neg_all {xs : List Int} : ∀ {i : Nat}, Ti.negI xs i < 0 → ∀ x ∈ xs, 0 ≤ x := by
  induction xs with
  | nil => intro i _ x hx; cases hx
  | cons y r ih =>
    intro i h x hx
    rw [Ti.negI] at h
    split at h
    · omega
    · rcases List.mem_cons.1 hx with rfl | hx
      · omega
      · exact ih h x hx
/-- the coins of a good order -/
theorem coin_pos {l : List UInt8} : ∀ x ∈ Ti.coinL l 0, 0 ≤ x := by
  unfold Ti.coinL
  intro x hx
  split at hx
  · next h2 => exact neg_all h2.2 x hx
  · cases hx
end Ns
end Go.Proofs.YthbkfhhnhiplkaaGreatDoor
