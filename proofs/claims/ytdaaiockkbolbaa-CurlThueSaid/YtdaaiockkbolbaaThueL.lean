/- Plain: the first clear word that does not stay clear is the proof that is returned; a rule without one keeps words clear. -/
import Derived.Test.YtdaaiockkbolbaaThueP
import Derived.Test.YtdaaiockkbolbaaKeeps
import Derived.Test.YtdaaiockkbolbaaMade
namespace Go.Proofs.Ytdaaiockkbolbaa
open Go.RowKit
theorem clB_find (ws : List ByteArray) (n L : Nat) : ((wordsB n L).map bts).find? (pfS ws) = ((clB n L).find? fun t => !cleanS (putS ws (bts t))).map bts := by
  rw [words_ext]
  have e : (extW n L []).find? (pfS ws) = ((extW n L []).filter cleanS).find? fun x => !cleanS (putS ws x) := by
    rw [List.find?_filter]
    congr 1
    funext a
    simp [pfS]
  rw [e, ← clB_ext, List.find?_map]
  rfl
theorem ag_clB {ws : List ByteArray} {n j : Nat} (h : agS ws n j = []) : agS ws n (j + 1) = (((clB n (j + 1)).find? fun t => !cleanS (putS ws (bts t))).map bts).getD [] := by
  rw [ag_find h, clB_find]
theorem ag_clear {ws : List ByteArray} {n j : Nat} (h : agS ws n j = []) (hp : ∀ u ∈ clB n (j + 1), cleanS (putS ws (bts u)) = true) : agS ws n (j + 1) = [] := by
  rw [ag_clB h, List.find?_eq_none.2]
  · rfl
  · intro u hu
    rw [hp u hu]; decide
theorem ag_first {ws : List ByteArray} {n j i : Nat} {t : ByteArray} (h : agS ws n j = []) (hi : (clB n (j + 1))[i]? = some t) (hp : ∀ u ∈ (clB n (j + 1)).take i, cleanS (putS ws (bts u)) = true) (ht : cleanS (putS ws (bts t)) = false) : agS ws n (j + 1) = bts t := by
  have hf : ((clB n (j + 1)).find? fun t => !cleanS (putS ws (bts t))) = some t := by
    rw [List.find?_eq_some_iff_getElem]
    obtain ⟨hl, he⟩ := List.getElem?_eq_some_iff.1 hi
    refine ⟨by rw [ht]; rfl, i, hl, he, fun k hk => ?_⟩
    have := hp ((clB n (j + 1))[k]'(by omega)) (by rw [List.mem_take_iff_getElem]; exact ⟨k, by omega, rfl⟩)
    rw [this]; rfl
  rw [ag_clB h, hf]
  rfl
/-- what is known of the words of clB -/
theorem clB_facts {n : Nat} (hn : n ≤ 4) (L : Nat) : ∀ t ∈ clB n L, lettersS (bts t) (n : Int) = true ∧ cleanS (bts t) = true ∧ (bts t).length = L := by
  intro t ht
  have h1 : bts t ∈ (clB n L).map bts := List.mem_map_of_mem ht
  rw [clB_ext, List.mem_filter, ← words_ext] at h1
  obtain ⟨u, hu, he⟩ := List.mem_map.1 h1.1
  rw [← he]
  exact ⟨letters_word hn hu, by rw [he]; exact h1.2, by rw [he, bts_len]; exact clB_size n L t ht⟩
theorem ext_mem (n : Nat) : ∀ (z p : Word), lettersS z (n : Int) = true → p ++ z ∈ extW n z.length p := by
  intro z
  induction z with
  | nil => intro p _; simp [extW]
  | cons b z ih =>
    intro p h
    simp only [lettersS, List.all_cons, Bool.and_eq_true, decide_eq_true_eq] at h
    obtain ⟨⟨h1, h2⟩, h3⟩ := h
    rw [List.length_cons, extW, List.mem_flatMap]
    refine ⟨b.toNat - 97, ?_, ?_⟩
    · rw [List.mem_range'_1]; omega
    · have e : (97 + (b.toNat - 97)).toUInt8 = b := by
        rw [show 97 + (b.toNat - 97) = b.toNat by omega]
        simp
      rw [e, show p ++ b :: z = (p ++ [b]) ++ z by simp]
      exact ih (p ++ [b]) (by simp only [lettersS]; exact h3)
theorem clB_mem {n : Nat} {x : Word} (hl : lettersS x (n : Int) = true) (hc : cleanS x = true) : ∃ t ∈ clB n x.length, bts t = x := by
  have h := ext_mem n x [] hl
  rw [List.nil_append] at h
  have h2 : x ∈ (extW n x.length []).filter cleanS := List.mem_filter.2 ⟨h, hc⟩
  rw [← clB_ext] at h2
  exact List.mem_map.1 h2
theorem ag_empty {ws : List ByteArray} {n j k : Nat} (h : agS ws n k = []) (hj : j ≤ k) : agS ws n j = [] := by
  obtain ⟨d, rfl⟩ : ∃ d, k = j + d := ⟨k - j, by omega⟩
  cases he : (agS ws n j).isEmpty with
  | true => simpa using he
  | false =>
    rw [agS_stay he d] at h
    rw [h] at he
    cases he
theorem ag_small {ws : List ByteArray} {n k : Nat} (h : agS ws n k = []) {x : Word} (hl : lettersS x (n : Int) = true) (hc : cleanS x = true) (hk : x.length ≤ k) : cleanS (putS ws x) = true := by
  rcases Nat.eq_zero_or_pos x.length with h0 | h0
  · have : x = [] := List.eq_nil_of_length_eq_zero h0
    subst this
    rfl
  · obtain ⟨j, hj⟩ : ∃ j, x.length = j + 1 := ⟨x.length - 1, by omega⟩
    have h1 := ag_empty h (show j + 1 ≤ k by omega)
    have h2 := ag_empty h (show j ≤ k by omega)
    rw [ag_clB h2] at h1
    obtain ⟨t, ht, hb⟩ := clB_mem hl hc
    rw [hj] at ht
    rw [← Bool.not_eq_false]
    intro hq
    cases hf : ((clB n (j + 1)).find? fun t => !cleanS (putS ws (bts t))) with
    | none =>
      rw [List.find?_eq_none] at hf
      have := hf t ht
      rw [hb, hq] at this
      exact this rfl
    | some u =>
      rw [hf] at h1
      have hu : bts u = [] := h1
      have := clB_size n (j + 1) u (List.mem_of_find?_eq_some hf)
      rw [← bts_len, hu] at this
      simp at this
/-- what is known of a proof -/
theorem ag_proof {ws : List ByteArray} {n : Nat} (hn : n ≤ 4) (k : Nat) : agS ws n k = [] ∨ (pfS ws (agS ws n k) = true ∧ lettersS (agS ws n k) (n : Int) = true ∧ (agS ws n k).length ≤ k ∧ 1 ≤ (agS ws n k).length) := by
  induction k with
  | zero => left; rfl
  | succ k ih =>
    rcases ih with h | ⟨h1, h2, h3, h4⟩
    · rw [ag_clB h]
      cases hf : ((clB n (k + 1)).find? fun t => !cleanS (putS ws (bts t))) with
      | none => left; rfl
      | some u =>
        right
        have hm := List.mem_of_find?_eq_some hf
        obtain ⟨q1, q2, q3⟩ := clB_facts hn (k + 1) u hm
        have hp := List.find?_some hf
        refine ⟨?_, q1, ?_, ?_⟩
        · show pfS ws (bts u) = true
          unfold pfS
          rw [q2]
          simpa using hp
        · show (bts u).length ≤ k + 1
          omega
        · show 1 ≤ (bts u).length
          omega
    · right
      have he : (agS ws n k).isEmpty = false := by
        cases hc : agS ws n k with
        | nil => rw [hc] at h4; simp at h4
        | cons a l => rfl
      have := agS_stay he 1
      rw [this]
      exact ⟨h1, h2, by omega, h4⟩
structure MadeF (ws : List ByteArray) (n k : Nat) : Prop where
  hm : MadeW ws k
  hl : ws.length = n
  hn1 : 1 ≤ n
  hn : n ≤ 4
  hk1 : 1 ≤ k
  hk : k ≤ 6
section
variable {ws : List ByteArray} {n k : Nat} (hF : MadeF ws n k)
include hF
theorem made_head : (ws.headD ⟨#[]⟩).size = k := by
  obtain ⟨hm, hl, hn1, hn, hk1, hk⟩ := id hF
  cases ws with
  | nil => simp at hl; omega
  | cons a l => exact hm.size a (by simp)
theorem made_rule : ruleE ws = 0 := by
  obtain ⟨hm, hl, hn1, hn, hk1, hk⟩ := id hF
  have hh := made_head hF
  have key : ∀ l : List ByteArray, (∀ t ∈ l, t.size = k ∧ lettersS (bts t) 4 = true) → ruleL k l = 0 := by
    intro l
    induction l with
    | nil => intro _; rfl
    | cons a l ih =>
      intro h
      obtain ⟨h1, h2⟩ := h a (by simp)
      rw [ruleL, if_pos ⟨by omega, by omega, h1⟩, if_pos h2]
      exact ih fun t ht => h t (by simp [ht])
  unfold ruleE
  rw [if_neg (by omega), if_neg (by omega), hh]
  exact key ws fun t ht => ⟨hm.size t ht, hm.lets t ht⟩
theorem made_kept (h3 : agS ws n 3 = []) : Kept ws n k := ⟨hF.hl, hF.hm.size, hF.hk1, fun _ h1 h2 h => ag_small h3 h1 h2 h⟩
/-- proofs have three letters at most -/
theorem ag_most (j : Nat) : agS ws n (3 + j) = agS ws n 3 := by
  obtain ⟨hm, hl, hn1, hn, hk1, hk⟩ := id hF
  cases he : (agS ws n 3).isEmpty with
  | false => exact agS_stay he j
  | true =>
    have h3 : agS ws n 3 = [] := by simpa using he
    rw [h3]
    have hK := made_kept hF h3
    induction j with
    | zero => exact h3
    | succ j ih =>
      refine ag_clear ih fun u hu => ?_
      obtain ⟨q1, q2, _⟩ := clB_facts hn (3 + j + 1) u hu
      exact thue hK _ (bts u) rfl q1 q2
theorem made_word (h3 : agS ws n 3 = []) {i : Nat} {x : ByteArray} (hx : ws[i]? = some x) : twL (bts x) = [] := by
  obtain ⟨hm, hl, hn1, hn, hk1, hk⟩ := id hF
  have hi : i < n := by rw [← hl]; exact (List.getElem?_eq_some_iff.1 hx).1
  have h8 : (97 + i).toUInt8.toNat = 97 + i := by rw [Nat.toUInt8, UInt8.toNat_ofNat']; omega
  have hlet : lettersS [(97 + i).toUInt8] (n : Int) = true := by
    simp only [lettersS, List.all_cons, List.all_nil, Bool.and_true, Bool.and_eq_true, decide_eq_true_eq, h8]
    omega
  have := ag_small h3 hlet (clean_one _) (by simp)
  have e : putS ws [(97 + i).toUInt8] = bts x := by
    simp only [putS, List.flatMap_cons, List.flatMap_nil, List.append_nil, wordOf, h8]
    rw [show 97 + i - 97 = i by omega, List.getD, hx]
    rfl
  rw [e, ← tw_clean] at this
  simpa using this
theorem made_apart (h3 : agS ws n 3 = []) {i j : Nat} {x y : ByteArray} (hx : ws[i]? = some x) (hy : ws[j]? = some y) (hij : j < i) : x ≠ y := by
  obtain ⟨hm, hl, hn1, hn, hk1, hk⟩ := id hF
  rintro rfl
  have hi : i < n := by rw [← hl]; exact (List.getElem?_eq_some_iff.1 hx).1
  have h8 : ∀ q, q < n → (97 + q).toUInt8.toNat = 97 + q := fun q hq => by rw [Nat.toUInt8, UInt8.toNat_ofNat']; omega
  have hlet : lettersS [(97 + i).toUInt8, (97 + j).toUInt8] (n : Int) = true := by
    refine letters2 ⟨?_, ?_⟩ ⟨?_, ?_⟩
    · rw [h8 i hi]; omega
    · rw [h8 i hi]; omega
    · rw [h8 j (by omega)]; omega
    · rw [h8 j (by omega)]; omega
  have hne : (97 + i).toUInt8 ≠ (97 + j).toUInt8 := by
    intro e
    have := congrArg UInt8.toNat e
    rw [h8 i hi, h8 j (by omega)] at this
    omega
  have := ag_small h3 hlet (clean2 hne) (by simp)
  have e : putS ws [(97 + i).toUInt8, (97 + j).toUInt8] = bts x ++ bts x := by
    simp only [putS, List.flatMap_cons, List.flatMap_nil, List.append_nil, wordOf, h8 i hi, h8 j (by omega)]
    rw [show 97 + i - 97 = i by omega, show 97 + j - 97 = j by omega, List.getD, hx, List.getD, hy]
    rfl
  have hxs := hm.size x (List.mem_of_getElem? hx)
  rw [e, unclean_iff.2 ⟨0, k, hk1, by rw [List.length_append, bts_len]; omega, fun q hq => ?_⟩] at this
  · cases this
  · rw [Nat.zero_add, Nat.zero_add, List.getElem?_append_left (by rw [bts_len]; omega), List.getElem?_append_right (by rw [bts_len]; omega), bts_len, hxs, Nat.add_sub_cancel_left]
theorem made_proves (h3 : agS ws n 3 ≠ []) : prE ws (agS ws n 3) = 0 := by
  obtain ⟨hm, hl, hn1, hn, hk1, hk⟩ := id hF
  rcases ag_proof (ws := ws) hn 3 with h | ⟨h1, h2, hle, _⟩
  · exact absurd h h3
  · have hr := made_rule hF
    have hh := made_head hF
    have h4 : lettersS (agS ws n 3) 4 = true := by
      simp only [lettersS, List.all_eq_true, Bool.and_eq_true, decide_eq_true_eq] at h2 ⊢
      intro b hb
      have := h2 b hb
      omega
    have hc : chkW (agS ws n 3) = 0 := by
      unfold chkW
      rw [if_neg (by omega), if_pos h4]
    have ha : askE ws (agS ws n 3) = 0 := by
      unfold askE
      rw [if_neg (by simp [hr]), hc]
    have hmul : (agS ws n 3).length * k ≤ 3 * 6 := Nat.mul_le_mul hle hk
    have hf : fitE ws (agS ws n 3) = 0 := by
      unfold fitE
      rw [if_neg (by simp [ha]), hl, if_neg (by simp [h2]), hh, if_neg (by omega)]
    unfold prE
    rw [if_neg (by simp [hf]), if_pos h1]
end
end Go.Proofs.Ytdaaiockkbolbaa
