/- A file that is read is the book's own file, and the other way round: plain. -/
import Derived.Test.YtbgakdpbglpfaaaGreatDoorDrXh
import Derived.Test.YtbgakdpbglpfaaaGreatDoorDuB
namespace Go.Proofs.YtbgakdpbglpfaaaGreatDoor
namespace Dr
set_option linter.unusedSimpArgs false
/-- pieces, each with a byte behind it -/
def glueL (c : UInt8) (ws : List (List UInt8)) : List UInt8 := (ws.map fun w => w ++ [c]).flatten
theorem glue_cons (c : UInt8) (w : List UInt8) (ws : List (List UInt8)) : glueL c (w :: ws) = w ++ c :: glueL c ws := by
  unfold glueL
  rw [List.map_cons, List.flatten_cons, List.append_assoc]
  rfl
theorem glue_append (c : UInt8) (ws vs : List (List UInt8)) : glueL c (ws ++ vs) = glueL c ws ++ glueL c vs := by
  unfold glueL
  rw [List.map_append, List.flatten_append]
theorem split_ne (c : UInt8) : ∀ l : List UInt8, splitL c l ≠ []
  | [] => by unfold splitL; simp
  | x :: l => by
    unfold splitL
    split
    · simp
    · split <;> simp
theorem glue_split (c : UInt8) : ∀ l : List UInt8, glueL c (splitL c l) = l ++ [c]
  | [] => rfl
  | x :: l => by
    have ih := glue_split c l
    unfold splitL
    by_cases h : (x == c) = true
    · rw [if_pos h, glue_cons, ih, (beq_iff_eq.1 h)]
      rfl
    · rw [if_neg h]
      cases hs : splitL c l with
      | nil => exact absurd hs (split_ne c l)
      | cons w ws =>
        rw [hs, glue_cons] at ih
        show glueL c ((x :: w) :: ws) = _
        rw [glue_cons, List.cons_append, ih]
        rfl
theorem split_free (c : UInt8) : ∀ l : List UInt8, ∀ w ∈ splitL c l, c ∉ w
  | [] => fun w hw => by
    unfold splitL at hw
    rw [List.mem_singleton.1 hw]
    simp
  | x :: l => fun w hw => by
    have ih := split_free c l
    unfold splitL at hw
    by_cases h : (x == c) = true
    · rw [if_pos h] at hw
      rcases List.mem_cons.1 hw with rfl | hw
      · simp
      · exact ih w hw
    · rw [if_neg h] at hw
      cases hs : splitL c l with
      | nil => exact absurd hs (split_ne c l)
      | cons v ws =>
        rw [hs] at hw ih
        have hw : w ∈ (x :: v) :: ws := hw
        rcases List.mem_cons.1 hw with rfl | hw
        · intro hc
          rcases List.mem_cons.1 hc with hc | hc
          · exact h (beq_iff_eq.2 hc.symm)
          · exact ih v List.mem_cons_self hc
        · exact ih w (List.mem_cons_of_mem _ hw)
theorem cut_same (c : UInt8) : ∀ {w v : List UInt8} {a b : List UInt8}, c ∉ w → c ∉ v → w ++ c :: a = v ++ c :: b → w = v ∧ a = b
  | [], [], a, b, _, _, h => ⟨rfl, (List.cons.inj h).2⟩
  | [], y :: v, a, b, _, hv, h => absurd ((List.cons.inj h).1 ▸ List.mem_cons_self) hv
  | x :: w, [], a, b, hw, _, h => absurd ((List.cons.inj h).1 ▸ List.mem_cons_self) hw
  | x :: w, y :: v, a, b, hw, hv, h => by
    obtain ⟨h1, h2⟩ := List.cons.inj h
    obtain ⟨h3, h4⟩ := cut_same c (fun hc => hw (List.mem_cons_of_mem _ hc)) (fun hc => hv (List.mem_cons_of_mem _ hc)) h2
    exact ⟨by rw [h1, h3], h4⟩
theorem glue_inj (c : UInt8) : ∀ {ws vs : List (List UInt8)}, (∀ w ∈ ws, c ∉ w) → (∀ v ∈ vs, c ∉ v) → glueL c ws = glueL c vs → ws = vs
  | [], [], _, _, _ => rfl
  | [], v :: vs, _, _, h => by rw [glue_cons] at h; simp [glueL] at h
  | w :: ws, [], _, _, h => by rw [glue_cons] at h; simp [glueL] at h
  | w :: ws, v :: vs, hw, hv, h => by
    rw [glue_cons, glue_cons] at h
    obtain ⟨h1, h2⟩ := cut_same c (hw w List.mem_cons_self) (hv v List.mem_cons_self) h
    rw [h1, glue_inj c (fun x hx => hw x (List.mem_cons_of_mem _ hx)) (fun x hx => hv x (List.mem_cons_of_mem _ hx)) h2]
theorem split_glue (c : UInt8) {l : List UInt8} {ws : List (List UInt8)} (hf : ∀ w ∈ ws, c ∉ w) (h : l ++ [c] = glueL c ws) : splitL c l = ws :=
  glue_inj c (split_free c l) hf ((glue_split c l).trans h)
theorem bodyL_glue (ls : List ByteArray) : bodyL ls = glueL 10 (ls.map byts) := by
  unfold bodyL glueL
  rw [List.map_map]
  rfl
/-! numbers and their digits -/
theorem val_snoc (w : List UInt8) (c : UInt8) : valL (w ++ [c]) = 10 * valL w + (c.toNat - 48) := by
  unfold valL
  rw [List.foldl_append, List.foldl_cons, List.foldl_nil]
theorem dig_of {c : UInt8} (h : digC c = true) : UInt8.ofNat (48 + (c.toNat - 48)) = c ∧ c.toNat - 48 < 10 := by
  unfold digC at h
  rw [Bool.and_eq_true, decide_eq_true_eq, decide_eq_true_eq] at h
  refine ⟨?_, by omega⟩
  rw [show 48 + (c.toNat - 48) = c.toNat by omega]
  exact UInt8.ofNat_toNat
theorem snoc_ind {α : Type} {P : List α → Prop} (h0 : P []) (h1 : ∀ w c, P w → P (w ++ [c])) (l : List α) : P l := by
  have h : ∀ l : List α, P l.reverse := by
    intro l
    induction l with
    | nil => exact h0
    | cons x l ih => rw [List.reverse_cons]; exact h1 _ _ ih
  have := h l.reverse
  rwa [List.reverse_reverse] at this
theorem val_pos : ∀ (w : List UInt8), w ≠ [] → w.all digC = true → w.head? ≠ some 48 → 1 ≤ valL w := by
  refine snoc_ind (fun h => absurd rfl h) fun w c ih => ?_
  · intro _ ha hh
    rw [val_snoc]
    rw [List.all_append, Bool.and_eq_true] at ha
    cases w with
    | nil =>
      have hc : digC c = true := by simpa using ha.2
      have h48 : c ≠ 48 := fun e => hh (by rw [e]; rfl)
      unfold digC at hc
      rw [Bool.and_eq_true, decide_eq_true_eq, decide_eq_true_eq] at hc
      have : c.toNat ≠ 48 := fun e => h48 (UInt8.toNat_inj.1 e)
      omega
    | cons x w =>
      have := ih (by simp) ha.1 (by simpa using hh)
      omega
theorem dec_val : ∀ (w : List UInt8), w ≠ [] → w.all digC = true → (1 < w.length → w.head? ≠ some 48) → Lib.decDigits (valL w) = w := by
  refine snoc_ind (fun h => absurd rfl h) fun w c ih => ?_
  · intro _ ha hh
    rw [val_snoc]
    rw [List.all_append, Bool.and_eq_true] at ha
    obtain ⟨d1, d2⟩ := dig_of (c := c) (by simpa using ha.2)
    cases w with
    | nil =>
      rw [show 10 * valL [] + (c.toNat - 48) = c.toNat - 48 by rw [show valL [] = 0 from rfl]; omega, Lib.decDigits, dif_pos d2, d1]
      rfl
    | cons x w =>
      have hx : (x :: w).head? ≠ some 48 := by
        have := hh (by simp)
        simpa using this
      have h1 := val_pos (x :: w) (by simp) ha.1 hx
      rw [Lib.decDigits, dif_neg (by omega), show (10 * valL (x :: w) + (c.toNat - 48)) / 10 = valL (x :: w) by omega, show (10 * valL (x :: w) + (c.toNat - 48)) % 10 = c.toNat - 48 by omega, d1, ih (by simp) ha.1 (fun _ => hx)]
theorem num_dec {w : List UInt8} {k n : Nat} (h : numOf w k = some n) : w = Lib.decDigits n := by
  unfold numOf at h
  split at h
  · cases h
  · rename_i h1
    split at h
    · rename_i h2
      injection h with h
      subst h
      simp only [Bool.or_eq_true, not_or, Bool.and_eq_true, not_and, decide_eq_true_eq] at h1
      refine (dec_val w (by intro e; subst e; exact h1.1.1 rfl) h2 fun hl => ?_).symm
      have := h1.2 hl
      intro e
      rw [e] at this
      exact this rfl
    · cases h
theorem dec_dig : ∀ (n : Nat), (Lib.decDigits n).all digC = true ∧ Lib.decDigits n ≠ [] ∧ valL (Lib.decDigits n) = n ∧ (10 ≤ n → (Lib.decDigits n).head? ≠ some 48) ∧ (1 ≤ n → (Lib.decDigits n).head? ≠ some 48) := by
  intro n
  induction n using Nat.strongRecOn with
  | _ n ih =>
    by_cases h : n < 10
    · rw [Lib.decDigits, dif_pos h]
      have h10 : ∀ n : Nat, n < 10 → ([UInt8.ofNat (48 + n)].all digC = true ∧ valL [UInt8.ofNat (48 + n)] = n ∧ (1 ≤ n → ([UInt8.ofNat (48 + n)] : List UInt8).head? ≠ some 48)) := by decide
      obtain ⟨a, b, c⟩ := h10 n h
      exact ⟨a, by simp, b, fun _ => by omega, c⟩
    · obtain ⟨a, b, c, d, e⟩ := ih (n / 10) (by omega)
      rw [Lib.decDigits, dif_neg h]
      have h10 : ∀ n : Nat, n < 10 → (digC (UInt8.ofNat (48 + n)) = true ∧ (UInt8.ofNat (48 + n)).toNat - 48 = n) := by decide
      obtain ⟨f, g⟩ := h10 (n % 10) (by omega)
      have hd : (Lib.decDigits (n / 10) ++ [UInt8.ofNat (48 + n % 10)]).head? = (Lib.decDigits (n / 10)).head? := by
        cases hq : Lib.decDigits (n / 10) with
        | nil => exact absurd hq b
        | cons x l => rfl
      refine ⟨by rw [List.all_append, a]; simpa using f, by simp, by rw [val_snoc, c, g]; omega, fun _ => ?_, fun _ => ?_⟩
      all_goals
        rw [hd]
        exact e (by omega)
theorem dec_len2 : ∀ (k n : Nat), n < 10 ^ (k + 1) → (Lib.decDigits n).length ≤ k + 1
  | 0, n, h => by rw [Lib.decDigits, dif_pos (by simpa using h)]; exact Nat.le_refl _
  | k + 1, n, h => by
    by_cases h0 : n < 10
    · rw [Lib.decDigits, dif_pos h0]; simp
    · rw [Lib.decDigits, dif_neg h0, List.length_append, List.length_singleton]
      have := dec_len2 k (n / 10) (by rw [Nat.pow_succ] at h; omega)
      omega
theorem num_of_dec {k n : Nat} (h : n < 10 ^ (k + 1)) : numOf (Lib.decDigits n) (k + 1) = some n := by
  obtain ⟨a, b, c, d, e⟩ := dec_dig n
  have hl := dec_len2 k n h
  unfold numOf
  rw [if_neg, if_pos a, c]
  simp only [Bool.or_eq_true, not_or, Bool.and_eq_true, not_and, decide_eq_true_eq]
  refine ⟨⟨?_, by omega⟩, fun h1 => ?_⟩
  · cases hq : Lib.decDigits n with
    | nil => exact absurd hq b
    | cons x l => simp
  · have h10 : 10 ≤ n := by
      refine Nat.not_lt.1 fun hn => ?_
      rw [Lib.decDigits, dif_pos hn] at h1
      simp at h1
    have := d h10
    simpa using this
end Dr
end Go.Proofs.YtbgakdpbglpfaaaGreatDoor
