/- Plain: Count is the reference's: a change of letters keeps what is clear. -/
import Derived.Test.YtdaaiockkbolbaaPlain
namespace Go.Proofs.Ytdaaiockkbolbaa
open Go.RowKit
theorem runC_go (n m : Nat) : ∀ (x : Word) (s : Nat), cleanS x = true → runW stepC n m s x = (true, s + cntR n m x) := by
  induction m with
  | zero => intro x s h; rfl
  | succ m ih =>
    intro x s h
    have hall : ∀ k j s, runL (runW stepC n m) x k (97 + j) s = (true, s + sumL (cntR n m) x (restP x j k)) := by
      intro k
      induction k with
      | zero => intro j s; rfl
      | succ k ik =>
        intro j s
        rw [runL, restP]
        by_cases he : endsS (x ++ [(97 + j).toUInt8]) = 0
        · have hcl := (clean_snoc h _).2 he
          have hi := ik (j + 1) (s + cntR n m (x ++ [(97 + j).toUInt8]))
          rw [← Nat.add_assoc] at hi
          rw [if_pos he, if_pos hcl, ih _ s hcl, if_pos rfl, sumL, ← Nat.add_assoc]
          exact hi
        · have hi := ik (j + 1) s
          rw [← Nat.add_assoc] at hi
          rw [if_neg he, if_neg (fun h2 => he ((clean_snoc h _).1 h2))]
          exact hi
    have e := hall n 0 s
    rw [← next_all] at e
    exact e
section
variable {f : UInt8 → UInt8} (hf : ∀ a b, f a = f b → a = b)
include hf
theorem map_inj8 : ∀ {l m : Word}, l.map f = m.map f → l = m := by
  intro l
  induction l with
  | nil => intro m h; cases m with
    | nil => rfl
    | cons a m => cases h
  | cons a l ih => intro m h; cases m with
    | nil => cases h
    | cons b m =>
      simp only [List.map_cons, List.cons.injEq] at h
      rw [hf _ _ h.1, ih h.2]
theorem tail_map (l : Word) (k : Nat) : tailEq (l.map f) k = tailEq l k := by
  unfold tailEq
  rw [List.length_map, ← List.map_drop, ← List.map_take, ← List.map_drop, Bool.eq_iff_iff, beq_iff_eq, beq_iff_eq]
  exact ⟨fun h => map_inj8 hf h, fun h => by rw [h]⟩
theorem ends_map (l : Word) : endsS (l.map f) = endsS l := by
  unfold endsS
  rw [List.length_map]
  simp only [tail_map hf]
theorem clean_map (l : Word) : cleanS (l.map f) = cleanS l := by
  rw [Bool.eq_iff_iff, clean_iff, clean_iff]
  constructor
  · intro h e h1 h2
    have := h e h1 (by simpa using h2)
    rwa [← List.map_take, ends_map hf] at this
  · intro h e h1 h2
    rw [← List.map_take, ends_map hf]
    exact h e h1 (by simpa using h2)
end
/-- two letters change their names -/
def swp (a b c : UInt8) : UInt8 := if c = a then b else if c = b then a else c
theorem swp_swp (a b c : UInt8) : swp a b (swp a b c) = c := by
  unfold swp
  by_cases h1 : c = a <;> by_cases h2 : c = b <;> simp_all
theorem swp_inj (a b : UInt8) : ∀ c d, swp a b c = swp a b d → c = d := fun c d h => by rw [← swp_swp a b c, h, swp_swp]
/-- a sum over the letters, each with a say -/
def sumC (g : UInt8 → Nat) : Nat → Nat
  | 0 => 0
  | k + 1 => sumC g k + g (97 + k).toUInt8
theorem sum_next (F : Word → Nat) (x : Word) (k : Nat) : sumL F x (nextP x k) = sumC (fun c => if cleanS (x ++ [c]) then F (x ++ [c]) else 0) k := by
  induction k with
  | zero => rfl
  | succ k ih =>
    rw [nextP, sumC, ← ih]
    by_cases hc : cleanS (x ++ [(97 + k).toUInt8]) = true
    · rw [if_pos hc, if_pos hc, sumL_snoc]
    · rw [if_neg hc, if_neg hc]; rfl
theorem sum_swp (g : UInt8 → Nat) {n t : Nat} (hn : n ≤ 4) (ht : t < n) : sumC (fun c => g (swp 97 (97 + t).toUInt8 c)) n = sumC g n := by
  match n, t, hn, ht with
  | 1, 0, _, _ => rfl
  | 2, 0, _, _ => rfl
  | 2, 1, _, _ => show 0 + g 98 + g 97 = 0 + g 97 + g 98; omega
  | 3, 0, _, _ => rfl
  | 3, 1, _, _ => show 0 + g 98 + g 97 + g 99 = 0 + g 97 + g 98 + g 99; omega
  | 3, 2, _, _ => show 0 + g 99 + g 98 + g 97 = 0 + g 97 + g 98 + g 99; omega
  | 4, 0, _, _ => rfl
  | 4, 1, _, _ => show 0 + g 98 + g 97 + g 99 + g 100 = 0 + g 97 + g 98 + g 99 + g 100; omega
  | 4, 2, _, _ => show 0 + g 99 + g 98 + g 97 + g 100 = 0 + g 97 + g 98 + g 99 + g 100; omega
  | 4, 3, _, _ => show 0 + g 100 + g 98 + g 99 + g 97 = 0 + g 97 + g 98 + g 99 + g 100; omega
theorem cnt_swp {n t : Nat} (hn : n ≤ 4) (ht : t < n) (d : Nat) : ∀ x : Word, cntR n d (x.map (swp 97 (97 + t).toUInt8)) = cntR n d x := by
  induction d with
  | zero => intro x; rfl
  | succ d ih =>
    intro x
    have hF := swp_inj 97 (97 + t).toUInt8
    rw [cntR, cntR, sum_next, sum_next, ← sum_swp _ hn ht]
    congr 1
    funext c
    have e : x.map (swp 97 (97 + t).toUInt8) ++ [swp 97 (97 + t).toUInt8 c] = (x ++ [c]).map (swp 97 (97 + t).toUInt8) := by simp
    rw [e, clean_map hF, ih]
theorem next_nil (n : Nat) : nextP [] n = (List.range n).map fun j => (97 + j).toUInt8 := by
  induction n with
  | zero => rfl
  | succ n ih =>
    have hc : cleanS ([] ++ [(97 + n).toUInt8]) = true := by
      rw [clean_iff]
      intro e h1 h2
      exact ends_short (by simp; omega)
    rw [nextP, if_pos hc, ih, List.range_succ]
    simp
theorem sum_same {F : Word → Nat} {x : Word} {K : Nat} : ∀ {l : Word}, (∀ c ∈ l, F (x ++ [c]) = K) → sumL F x l = K * l.length := by
  intro l
  induction l with
  | nil => intro _; rfl
  | cons c l ih =>
    intro h
    rw [sumL, h c (by simp), ih (fun c hc => h c (by simp [hc])), List.length_cons, Nat.mul_succ]
    omega
theorem cnt_all {n : Nat} (hn : n ≤ 4) (m : Nat) : cntR n (m + 1) [] = cntR n m [97] * n := by
  rw [cntR]
  have hl : (nextP [] n).length = n := by rw [next_nil]; simp
  rw [sum_same (K := cntR n m [97]), hl]
  intro c hc
  rw [next_nil] at hc
  obtain ⟨t, ht, rfl⟩ := List.mem_map.1 hc
  rw [List.mem_range] at ht
  rw [← cnt_swp hn ht m ([] ++ [(97 + t).toUInt8])]
  congr 1
  show [swp 97 (97 + t).toUInt8 (97 + t).toUInt8] = [97]
  unfold swp
  by_cases h : (97 + t).toUInt8 = 97
  · rw [if_pos h, h]
  · rw [if_neg h, if_pos rfl]
theorem clean_one (c : UInt8) : cleanS [c] = true := by
  rw [clean_iff]
  intro e h1 h2
  exact ends_short (by simp; omega)
/-- Count is the reference's -/
theorem countV_go (n l : Int) : countV n l = countVR n l := by
  unfold countV countVR
  by_cases hc : (1 ≤ n ∧ n ≤ 4) ∧ (0 ≤ l ∧ l ≤ 10)
  · rw [if_pos hc, if_pos hc]
    by_cases h0 : l = 0
    · subst h0; rfl
    · rw [if_neg h0]
      obtain ⟨k, rfl⟩ : ∃ k : Nat, n = k := ⟨n.toNat, by omega⟩
      obtain ⟨m, rfl⟩ : ∃ m : Nat, l = (m + 1 : Nat) := ⟨(l - 1).toNat, by omega⟩
      have e1 : (((m + 1 : Nat) : Int) - 1).toNat = m := by omega
      have e2 : ((k : Nat) : Int).toNat = k := rfl
      have e3 : (((m + 1 : Nat)) : Int).toNat = m + 1 := rfl
      rw [e1, e2, e3, cnt_all (by omega), countN, runC_go k m [97] 0 (clean_one 97), Nat.zero_add]
      simp
  · rw [if_neg hc, if_neg hc]
end Go.Proofs.Ytdaaiockkbolbaa
