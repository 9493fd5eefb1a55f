/- Plain: the reference's Pairs and Served: coins that are there; who waits. -/
import Derived.Test.YtfcfhiekkpflcaaDoorServed
namespace Go.Proofs.YtfcfhiekkpflcaaDoor
open Go.RowKit
/-- a heap of places: just the coins ahead that are not taken -/
structure Heap (l : Word) (pos : Nat) (st : List Nat) (tk : List Bool) : Prop where
  len : tk.length = l.length
  asc : st.Pairwise (· < ·)
  mem : ∀ j, j ∈ st ↔ j < pos ∧ l[j]? = some 99 ∧ tk[j]? = some false
  free : ∀ j, pos ≤ j → j < l.length → tk[j]? = some false
theorem Heap.nil (l : Word) : Heap l 0 [] (List.replicate l.length false) :=
  ⟨by simp, List.Pairwise.nil, fun j => by simp, fun j _ h => by simp [h]⟩
theorem Heap.coin {l : Word} {pos : Nat} {st : List Nat} {tk : List Bool} (h : Heap l pos st tk) (hy : l[pos]? = some 99) : Heap l (pos + 1) (st ++ [pos]) tk := by
  have hpl : pos < l.length := (List.getElem?_eq_some_iff.1 hy).1
  refine ⟨h.len, ?_, fun j => ?_, fun j h1 h2 => h.free j (by omega) h2⟩
  · rw [List.pairwise_append]
    refine ⟨h.asc, by simp, fun a ha b hb => ?_⟩
    obtain rfl : b = pos := by simpa using hb
    exact ((h.mem a).1 ha).1
  · rw [List.mem_append, h.mem]
    constructor
    · rintro (⟨h1, h2⟩ | h1)
      · exact ⟨by omega, h2⟩
      · obtain rfl : j = pos := by simpa using h1
        exact ⟨by omega, hy, h.free _ (Nat.le_refl _) hpl⟩
    · rintro ⟨h1, h2⟩
      by_cases hj : j = pos
      · exact Or.inr (by simp [hj])
      · exact Or.inl ⟨by omega, h2⟩
theorem Heap.above {l : Word} {pos t : Nat} {st : List Nat} {tk : List Bool} (h : Heap l pos (st ++ [t]) tk) {j : Nat} (h1 : t < j) (h2 : j < pos) (h3 : l[j]? = some 99) : tk[j]? = some true := by
  have hjl : j < l.length := (List.getElem?_eq_some_iff.1 h3).1
  have hj : j < tk.length := by rw [h.len]; exact hjl
  rw [List.getElem?_eq_getElem hj]
  cases hb : tk[j] with
  | true => rfl
  | false =>
    have := (h.mem j).2 ⟨h2, h3, by rw [List.getElem?_eq_getElem hj, hb]⟩
    have ha := h.asc
    rw [List.pairwise_append] at ha
    rcases List.mem_append.1 this with hm | hm
    · have := ha.2.2 j hm t (by simp)
      omega
    · have : j = t := by simpa using hm
      omega
theorem Heap.top {l : Word} {pos t : Nat} {st : List Nat} {tk : List Bool} (h : Heap l pos (st ++ [t]) tk) : t < pos ∧ l[t]? = some 99 ∧ tk[t]? = some false := (h.mem t).1 (by simp)
theorem Heap.note {l : Word} {pos t : Nat} {st : List Nat} {tk : List Bool} (h : Heap l pos (st ++ [t]) tk) (hy : l[pos]? = some 110) : Heap l (pos + 1) st (tk.set t true) := by
  have ha := h.asc
  rw [List.pairwise_append] at ha
  obtain ⟨ht1, ht2, ht3⟩ := h.top
  refine ⟨by rw [List.length_set]; exact h.len, ha.1, fun j => ?_, fun j h1 h2 => ?_⟩
  · have hm := h.mem j
    rw [List.mem_append] at hm
    constructor
    · intro hj
      have h1 := hm.1 (Or.inl hj)
      have h2 := ha.2.2 j hj t (by simp)
      exact ⟨by omega, h1.2.1, by rw [List.getElem?_set_ne (by omega)]; exact h1.2.2⟩
    · rintro ⟨h1, h2, h3⟩
      have hjp : j ≠ pos := by
        rintro rfl
        rw [hy] at h2
        cases h2
      by_cases hjt : t = j
      · subst hjt
        rw [List.getElem?_set_self (List.getElem?_eq_some_iff.1 ht3).1] at h3
        cases h3
      · rw [List.getElem?_set_ne hjt] at h3
        rcases hm.2 ⟨by omega, h2, h3⟩ with hj | hj
        · exact hj
        · have : j = t := by simpa using hj
          omega
  · rw [List.getElem?_set_ne (by omega)]
    exact h.free j (by omega) h2
/-- nobody is paid where no coin, or no note, is left -/
theorem pay_none {Np N2 Cp C2 : List Int} {i : Int} {p : Nat} (h1 : Np.length ≤ p ∨ Cp.length ≤ p) (hN : ∀ x ∈ N2, i < x) (hC : ∀ x ∈ C2, i < x) (hle : (Np ++ N2).length ≤ (Cp ++ C2).length) (m : Nat) (hm : m = (Np ++ N2).length - p) : payL (Np ++ N2) (Cp ++ C2) i m p = [] := by
  cases m with
  | zero => rfl
  | succ m =>
    rw [payL, if_neg]
    rintro ⟨h2, h3⟩
    have hpN : p < (Np ++ N2).length := by omega
    have hpC : p < (Cp ++ C2).length := by omega
    rcases h1 with h1 | h1
    · rw [List.getD, List.getElem?_eq_getElem hpN, Option.getD_some, List.getElem_append_right h1] at h2
      have := hN _ (List.getElem_mem (by rw [List.length_append] at hpN; omega : p - Np.length < N2.length))
      omega
    · rw [List.getD, List.getElem?_eq_getElem hpC, Option.getD_some, List.getElem_append_right h1] at h3
      have := hC _ (List.getElem_mem (by rw [List.length_append] at hpC; omega : p - Cp.length < C2.length))
      omega
theorem pay_some {Np N2 Cp C2 : List Int} {i : Int} {p : Nat} (h0 : p < Np.length ∧ p < Cp.length) (h1 : Np.length ≤ p + 1 ∨ Cp.length ≤ p + 1) (hNp : ∀ x ∈ Np, x ≤ i) (hCp : ∀ x ∈ Cp, x ≤ i) (hN : ∀ x ∈ N2, i < x) (hC : ∀ x ∈ C2, i < x)
    (hle : (Np ++ N2).length ≤ (Cp ++ C2).length) : payL (Np ++ N2) (Cp ++ C2) i ((Np ++ N2).length - p) p = [Np.getD p 0] := by
  obtain ⟨m, hm⟩ : ∃ m, (Np ++ N2).length - p = m + 1 := ⟨(Np ++ N2).length - p - 1, by simp only [List.length_append]; omega⟩
  have e1 : (Np ++ N2).getD p 0 = Np.getD p 0 := by rw [List.getD, List.getD, List.getElem?_append_left h0.1]
  have e2 : (Cp ++ C2).getD p 0 = Cp.getD p 0 := by rw [List.getD, List.getD, List.getElem?_append_left h0.2]
  have m1 : Np.getD p 0 ∈ Np := by rw [List.getD, List.getElem?_eq_getElem h0.1]; exact List.getElem_mem _
  have m2 : Cp.getD p 0 ∈ Cp := by rw [List.getD, List.getElem?_eq_getElem h0.2]; exact List.getElem_mem _
  rw [hm, payL, if_pos ⟨by rw [e1]; exact hNp _ m1, by rw [e2]; exact hCp _ m2⟩, e1, pay_none h1 hN hC hle m (by omega)]
/-- where who waits stands: p are paid -/
structure Wait (l : Word) (b pos p : Nat) (Q : List Int) (till : Nat) : Prop where
  pn : p ≤ (nP (l.take pos) 0).length
  pc : p ≤ b + (cP (l.take pos) 0).length
  one : (nP (l.take pos) 0).length = p ∨ b + (cP (l.take pos) 0).length = p
  q : Q = (nP (l.take pos) 0).drop p
  t : till = b + (cP (l.take pos) 0).length - p
theorem cP_append (l m : Word) : ∀ i, cP (l ++ m) i = cP l i ++ cP m (i + l.length) := by
  induction l with
  | nil => intro i; simp [cP]
  | cons y l ih =>
    intro i
    rw [List.cons_append, cP, cP, ih, show i + 1 + l.length = i + (y :: l).length by simp; omega]
    split <;> rfl
theorem nP_append (l m : Word) : ∀ i, nP (l ++ m) i = nP l i ++ nP m (i + l.length) := by
  induction l with
  | nil => intro i; simp [nP]
  | cons y l ih =>
    intro i
    rw [List.cons_append, nP, nP, ih, show i + 1 + l.length = i + (y :: l).length by simp; omega]
    split <;> rfl
theorem cP_ge (l : Word) : ∀ i x, x ∈ cP l i → (i : Int) ≤ x ∧ x < i + l.length := by
  induction l with
  | nil => intro i x h; cases h
  | cons y l ih =>
    intro i x h
    rw [cP] at h
    simp only [List.length_cons]
    split at h
    · rcases List.mem_cons.1 h with rfl | h
      · omega
      · have := ih _ _ h; omega
    · have := ih _ _ h; omega
theorem nP_ge (l : Word) : ∀ i x, x ∈ nP l i → (i : Int) ≤ x ∧ x < i + l.length := by
  induction l with
  | nil => intro i x h; cases h
  | cons y l ih =>
    intro i x h
    rw [nP] at h
    simp only [List.length_cons]
    split at h
    · have := ih _ _ h; omega
    · rcases List.mem_cons.1 h with rfl | h
      · omega
      · have := ih _ _ h; omega
theorem Wait.start (l : Word) (b : Nat) : Wait l b 0 0 [] b := ⟨by simp, by simp, Or.inl rfl, rfl, by simp [cP]⟩
theorem cP_take {l : Word} {pos : Nat} {y : UInt8} (hy : l[pos]? = some y) : cP (l.take (pos + 1)) 0 = cP (l.take pos) 0 ++ (if y = 99 then [(pos : Int)] else []) := by
  have hpl : pos < l.length := (List.getElem?_eq_some_iff.1 hy).1
  rw [List.take_add_one, hy, Option.toList_some, cP_append, List.length_take, Nat.min_eq_left (by omega), Nat.zero_add]
  rfl
theorem nP_take {l : Word} {pos : Nat} {y : UInt8} (hy : l[pos]? = some y) : nP (l.take (pos + 1)) 0 = nP (l.take pos) 0 ++ (if y = 99 then [] else [(pos : Int)]) := by
  have hpl : pos < l.length := (List.getElem?_eq_some_iff.1 hy).1
  rw [List.take_add_one, hy, Option.toList_some, nP_append, List.length_take, Nat.min_eq_left (by omega), Nat.zero_add]
  rfl
theorem srv_step {l : Word} {b pos p : Nat} {Q : List Int} {till : Nat} {y : UInt8} (hw : Wait l b pos p Q till) (hy : l[pos]? = some y) (Q1 : List Int) (t1 : Nat)
    (hQ1 : Q1 = if y = 99 then Q else Q ++ [(pos : Int)]) (ht1 : t1 = if y = 99 then till + 1 else till) :
    (Q1 = [] ∨ t1 = 0 → Wait l b (pos + 1) p Q1 t1 ∧ ((nP l 0).length ≤ (serC l b).length → srvT (nP l 0) (serC l b) (l.drop pos) pos p = (if y = 99 then [(pos : Int)] else []) ++ srvT (nP l 0) (serC l b) (l.drop (pos + 1)) (pos + 1) p)) ∧
    (∀ x Q2, Q1 = x :: Q2 → 0 < t1 → Wait l b (pos + 1) (p + 1) Q2 (t1 - 1) ∧ ((nP l 0).length ≤ (serC l b).length → srvT (nP l 0) (serC l b) (l.drop pos) pos p = (if y = 99 then [(pos : Int)] else []) ++ (x :: srvT (nP l 0) (serC l b) (l.drop (pos + 1)) (pos + 1) (p + 1)))) := by
  have hpl : pos < l.length := (List.getElem?_eq_some_iff.1 hy).1
  have hd : l.drop pos = y :: l.drop (pos + 1) := by
    obtain ⟨hl, he⟩ := List.getElem?_eq_some_iff.1 hy
    rw [List.drop_eq_getElem_cons hl, he]
  have hc := cP_take hy
  have hn := nP_take hy
  obtain ⟨pn, pc, one, q, t⟩ := hw
  have hcl : (cP (l.take (pos + 1)) 0).length = (cP (l.take pos) 0).length + (if y = 99 then 1 else 0) := by rw [hc, List.length_append]; split <;> rfl
  have hnl : (nP (l.take (pos + 1)) 0).length = (nP (l.take pos) 0).length + (if y = 99 then 0 else 1) := by rw [hn, List.length_append]; split <;> rfl
  have hQe : Q1 = (nP (l.take (pos + 1)) 0).drop p := by
    rw [hn, hQ1, q]
    split
    · simp
    · rw [List.drop_append_of_le_length pn]
  have hte : t1 = b + (cP (l.take (pos + 1)) 0).length - p := by
    rw [ht1, t, hcl]
    split <;> omega
  have hNall : nP l 0 = nP (l.take (pos + 1)) 0 ++ nP (l.drop (pos + 1)) (pos + 1) := by
    conv => lhs; rw [← List.take_append_drop (pos + 1) l]
    rw [nP_append, List.length_take, Nat.min_eq_left (by omega), Nat.zero_add]
  have hCall : serC l b = (List.replicate b (-1) ++ cP (l.take (pos + 1)) 0) ++ cP (l.drop (pos + 1)) (pos + 1) := by
    unfold serC
    conv => lhs; rw [← List.take_append_drop (pos + 1) l]
    rw [cP_append, List.length_take, Nat.min_eq_left (by omega), Nat.zero_add, List.append_assoc]
  have b1 : ∀ x ∈ nP (l.take (pos + 1)) 0, x ≤ (pos : Int) := fun x hx => by
    have := nP_ge _ _ _ hx
    rw [List.length_take] at this
    omega
  have b2 : ∀ x ∈ List.replicate b (-1 : Int) ++ cP (l.take (pos + 1)) 0, x ≤ (pos : Int) := fun x hx => by
    rcases List.mem_append.1 hx with hx | hx
    · have := (List.mem_replicate.1 hx).2; omega
    · have := cP_ge _ _ _ hx
      rw [List.length_take] at this
      omega
  have b3 : ∀ x ∈ nP (l.drop (pos + 1)) (pos + 1), (pos : Int) < x := fun x hx => by have := nP_ge _ _ _ hx; omega
  have b4 : ∀ x ∈ cP (l.drop (pos + 1)) (pos + 1), (pos : Int) < x := fun x hx => by have := cP_ge _ _ _ hx; omega
  have hrl : (List.replicate b (-1 : Int) ++ cP (l.take (pos + 1)) 0).length = b + (cP (l.take (pos + 1)) 0).length := by simp
  constructor
  · intro hz
    have hz2 : (nP (l.take (pos + 1)) 0).length ≤ p ∨ b + (cP (l.take (pos + 1)) 0).length ≤ p := by
      rcases hz with hz | hz
      · left
        rw [hQe] at hz
        have := congrArg List.length hz
        rw [List.length_drop, List.length_nil] at this
        omega
      · right; omega
    refine ⟨⟨by rw [hnl]; omega, by rw [hcl]; omega, ?_, hQe, hte⟩, fun hle => ?_⟩
    · rw [hnl, hcl] at hz2 ⊢
      split at hz2 <;> simp_all <;> omega
    · rw [hd, srvT]
      rw [hNall, hCall] at hle ⊢
      rw [pay_none (by rw [hrl]; exact hz2) b3 b4 hle _ rfl]
      rfl
  · intro x Q2 hQ hpos
    have h0 : p < (nP (l.take (pos + 1)) 0).length := by
      rw [hQe] at hQ
      have := congrArg List.length hQ
      rw [List.length_drop, List.length_cons] at this
      omega
    have h1 : p < b + (cP (l.take (pos + 1)) 0).length := by omega
    have hx : x = (nP (l.take (pos + 1)) 0).getD p 0 ∧ Q2 = (nP (l.take (pos + 1)) 0).drop (p + 1) := by
      rw [hQe, List.drop_eq_getElem_cons h0] at hQ
      injection hQ with e1 e2
      exact ⟨by rw [List.getD, List.getElem?_eq_getElem h0, Option.getD_some]; exact e1.symm, e2.symm⟩
    have hone : (nP (l.take (pos + 1)) 0).length ≤ p + 1 ∨ b + (cP (l.take (pos + 1)) 0).length ≤ p + 1 := by
      rw [hnl, hcl]
      split <;> omega
    refine ⟨⟨by omega, by omega, by omega, hx.2, by omega⟩, fun hle => ?_⟩
    rw [hd, srvT]
    rw [hNall, hCall] at hle ⊢
    rw [pay_some ⟨h0, by rw [hrl]; exact h1⟩ (by rw [hrl]; exact hone) b1 b2 b3 b4 hle, ← hx.1]
    rfl
theorem Wait.last {l : Word} {b p : Nat} {Q : List Int} {till : Nat} (hw : Wait l b l.length p Q till) : Q = [] ↔ (nP l 0).length ≤ (serC l b).length := by
  obtain ⟨pn, pc, one, q, t⟩ := hw
  rw [List.take_length] at *
  have hl : (serC l b).length = b + (cP l 0).length := by simp [serC]
  rw [hl, q, List.drop_eq_nil_iff]
  omega
theorem pairT_len (l : Word) : ∀ i st, (pairT l i st).length ≤ l.length := by
  induction l with
  | nil => intro i st; simp [pairT]
  | cons y l ih =>
    intro i st
    rw [pairT]
    split
    · have := ih (i + 1) (st ++ [i]); simp only [List.length_cons]; omega
    · have := ih (i + 1) st.dropLast; simp only [List.length_cons]; omega
theorem pairL_len (l : Word) : (pairL l).length ≤ l.length := by
  unfold pairL
  split
  · exact pairT_len _ _ _
  · simp
theorem payL_len (N C : List Int) (i : Int) (m : Nat) : ∀ p, (payL N C i m p).length ≤ m := by
  induction m with
  | zero => intro p; simp [payL]
  | succ m ih =>
    intro p
    rw [payL]
    split
    · have := ih (p + 1); simp only [List.length_cons]; omega
    · simp
theorem srvT_len (N C : List Int) (l : Word) : ∀ i p, (srvT N C l i p).length ≤ l.length + (N.length - p) := by
  induction l with
  | nil => intro i p; simp [srvT]
  | cons y l ih =>
    intro i p
    rw [srvT, List.length_append, List.length_append]
    have h1 := payL_len N C i (N.length - p) p
    have h2 := ih (i + 1) (p + (payL N C i (N.length - p) p).length)
    have h3 : (if y = 99 then [(i : Int)] else []).length ≤ 1 := by split <;> simp
    simp only [List.length_cons]
    omega
theorem serL_len (l : Word) (b : Int) : (serL l b).length ≤ 2 * l.length := by
  unfold serL
  split
  · have h1 := srvT_len (nP l 0) (serC l b.toNat) l 0 0
    have h2 := cP_len l 0
    omega
  · simp
end Go.Proofs.YtfcfhiekkpflcaaDoor
