/- Plain: pairs do not cross; who is served, in which order. -/
import Derived.Test.YtfcfhiekkpflcaaDoorRefF0
import Derived.Test.YtfcfhiekkpflcaaDoorBalQ
namespace Go.Proofs.YtfcfhiekkpflcaaDoor
open Go.RowKit
/-- pairs do not cross -/
def Apt (q p : Nat × Nat) : Prop := q.2 < p.2 ∧ ¬ (q.1 < p.1 ∧ p.1 < q.2)
theorem good_top {y : UInt8} {l : Word} {st : List Nat} (hy : ¬ y = 99) (h : goodB (y :: l) (st.length : Nat) = true) : ∃ st0 t, st = st0 ++ [t] ∧ goodB l (st0.length : Nat) = true := by
  rw [good_cons] at h
  simp only [Bool.and_eq_true, decide_eq_true_eq] at h
  have e : stp (st.length : Nat) y = (st.length : Int) - 1 := by unfold stp; rw [if_neg hy]
  rw [e] at h
  have hne : st ≠ [] := by
    rintro rfl
    have := h.1
    simp at this
  refine ⟨st.dropLast, st.getLast hne, (List.dropLast_concat_getLast hne).symm, ?_⟩
  have hl : ((st.dropLast.length : Nat) : Int) = (st.length : Int) - 1 := by rw [List.length_dropLast]; omega
  rw [hl]
  exact h.2
theorem good_coin {l : Word} {st : List Nat} {i : Nat} (h : goodB (99 :: l) (st.length : Nat) = true) : goodB l ((st ++ [i]).length : Nat) = true := by
  rw [good_cons] at h
  simp only [Bool.and_eq_true, decide_eq_true_eq] at h
  have e : stp (st.length : Nat) 99 = (((st ++ [i]).length : Nat) : Int) := by unfold stp; rw [if_pos rfl]; simp
  rw [e] at h
  exact h.2
theorem pairT_in (l : Word) : ∀ i st, (∀ x ∈ st, x < i) → goodB l (st.length : Nat) = true → ∀ p ∈ pairT l i st, i ≤ p.2 ∧ (p.1 ∈ st ∨ i ≤ p.1) ∧ p.1 < p.2 ∧ p.2 < i + l.length := by
  induction l with
  | nil => intro i st _ _ p hp; simp [pairT] at hp
  | cons y l ih =>
    intro i st hst hg p hp
    rw [pairT] at hp
    simp only [List.length_cons]
    split at hp
    · rename_i hy
      subst hy
      obtain ⟨h1, h2, h3, h4⟩ := ih (i + 1) (st ++ [i]) (fun x hx => by
        rcases List.mem_append.1 hx with hx | hx
        · have := hst x hx; omega
        · have : x = i := by simpa using hx
          omega) (good_coin hg) p hp
      refine ⟨by omega, ?_, h3, by omega⟩
      rcases h2 with h2 | h2
      · rcases List.mem_append.1 h2 with h2 | h2
        · exact Or.inl h2
        · have : p.1 = i := by simpa using h2
          exact Or.inr (by omega)
      · exact Or.inr (by omega)
    · rename_i hy
      obtain ⟨st0, t, rfl, hg0⟩ := good_top hy hg
      have e1 : (st0 ++ [t]).getLastD 0 = t := by simp
      have e2 : (st0 ++ [t]).dropLast = st0 := by simp
      rw [e1, e2] at hp
      have ht := hst t (by simp)
      rcases List.mem_cons.1 hp with rfl | hp
      · exact ⟨Nat.le_refl _, Or.inl (by simp), ht, by show i < _; omega⟩
      · obtain ⟨h1, h2, h3, h4⟩ := ih (i + 1) st0 (fun x hx => by have := hst x (by simp [hx]); omega) hg0 p hp
        refine ⟨by omega, ?_, h3, by omega⟩
        rcases h2 with h2 | h2
        · exact Or.inl (by simp [h2])
        · exact Or.inr (by omega)
theorem pairT_apt (l : Word) : ∀ i st, st.Pairwise (· < ·) → (∀ x ∈ st, x < i) → goodB l (st.length : Nat) = true → (pairT l i st).Pairwise Apt := by
  induction l with
  | nil => intro i st _ _ _; exact List.Pairwise.nil
  | cons y l ih =>
    intro i st hs hst hg
    rw [pairT]
    split
    · rename_i hy
      subst hy
      refine ih (i + 1) (st ++ [i]) ?_ (fun x hx => ?_) (good_coin hg)
      · rw [List.pairwise_append]
        refine ⟨hs, by simp, fun a ha b hb => ?_⟩
        have : b = i := by simpa using hb
        have := hst a ha
        omega
      · rcases List.mem_append.1 hx with hx | hx
        · have := hst x hx; omega
        · have : x = i := by simpa using hx
          omega
    · rename_i hy
      obtain ⟨st0, t, rfl, hg0⟩ := good_top hy hg
      have e1 : (st0 ++ [t]).getLastD 0 = t := by simp
      have e2 : (st0 ++ [t]).dropLast = st0 := by simp
      rw [e1, e2]
      rw [List.pairwise_append] at hs
      have hst0 : ∀ x ∈ st0, x < i + 1 := fun x hx => by have := hst x (by simp [hx]); omega
      rw [List.pairwise_cons]
      refine ⟨fun p hp => ?_, ih (i + 1) st0 hs.1 hst0 hg0⟩
      obtain ⟨h1, h2, _, _⟩ := pairT_in l (i + 1) st0 hst0 hg0 p hp
      refine ⟨h1, fun h => ?_⟩
      rcases h2 with h2 | h2
      · have := hs.2.2 p.1 h2 t (by simp)
        have h3 : t < p.1 := h.1
        omega
      · have h3 : p.1 < i := h.2
        omega
theorem pair_apt {l : Word} (h : lacksT l 0 < 0) : (pairT l 0 []).Pairwise Apt ∧ ∀ p ∈ pairT l 0 [], p.1 < p.2 ∧ p.2 < l.length := by
  have hg : goodB l (([] : List Nat).length : Nat) = true := (good_iff l 0).2 h
  refine ⟨pairT_apt l 0 [] List.Pairwise.nil (fun x hx => by cases hx) hg, fun p hp => ?_⟩
  obtain ⟨_, _, h3, h4⟩ := pairT_in l 0 [] (fun x hx => by cases hx) hg p hp
  exact ⟨h3, by omega⟩
/-- the customer at a place -/
def ltr (W : Word) (i : Int) : UInt8 := W.getD i.toNat 0
theorem ltr_at {W : Word} {k : Nat} {y : UInt8} (h : W[k]? = some y) : ltr W (k : Int) = y := by
  unfold ltr
  rw [Int.toNat_natCast, List.getD, h]; rfl
/-- what the law asks of one who is served behind others -/
structure StepOk (W : Word) (b : Int) (done : List Int) (i : Int) : Prop where
  lo : 0 ≤ i
  hi : i < W.length
  new : i ∉ done
  coin : 0 ≤ endT b ((done ++ [i]).map (ltr W))
  note : ltr W i = 110 → ∀ k : Nat, (k : Int) < i → (k : Int) ∈ done ∨ ltr W k ≠ 99
  came : ltr W i = 99 → ∀ k : Nat, (k : Int) < i → (k : Int) ∈ done ∨ (ltr W k ≠ 99 ∧ endT b (done.map (ltr W)) ≤ 0)
  kind : ∀ j ∈ done, ltr W j = ltr W i → j ≤ i
def Chk (W : Word) (b : Int) : List Int → List Int → Prop
  | _, [] => True
  | done, i :: r => StepOk W b done i ∧ Chk W b (done ++ [i]) r
theorem chk_at {W : Word} {b : Int} (r : List Int) : ∀ done, Chk W b done r → ∀ j i, r[j]? = some i → StepOk W b (done ++ r.take j) i := by
  induction r with
  | nil => intro done _ j i h; simp at h
  | cons x r ih =>
    intro done hc j i h
    cases j with
    | zero =>
      simp at h
      subst h
      simpa using hc.1
    | succ j =>
      have := ih (done ++ [x]) hc.2 j i (by simpa using h)
      simpa using this
/-- what stands, step by step -/
structure Inv (W : Word) (b : Int) (pos : Nat) (Q : List Int) (till : Nat) (done : List Int) : Prop where
  mem : ∀ k : Nat, (k : Int) ∈ done ↔ k < pos ∧ (k : Int) ∉ Q
  rng : ∀ i ∈ done, 0 ≤ i ∧ i < pos
  qn : ∀ q ∈ Q, ∃ k : Nat, q = k ∧ k < pos ∧ W[k]? = some 110
  qs : Q.Pairwise (· < ·)
  coin : endT b (done.map (ltr W)) = till
  fifo : ∀ i ∈ done, ltr W i = 110 → ∀ q ∈ Q, i ≤ q
theorem end_map (W : Word) (b : Int) (done : List Int) (i : Int) : endT b ((done ++ [i]).map (ltr W)) = stp (endT b (done.map (ltr W))) (ltr W i) := by
  rw [List.map_append, List.map_singleton, end_snoc]
theorem Inv.start (W : Word) (b : Nat) : Inv W b 0 [] b [] :=
  ⟨(fun k => by simp), (fun i h => by cases h), (fun q h => by cases h), List.Pairwise.nil, rfl, (fun i h => by cases h)⟩
section
variable {W : Word} {b : Int} {pos till : Nat} {Q done : List Int}
theorem Inv.put (h : Inv W b pos [] till done) {y : UInt8} (hy : W[pos]? = some y) (t : Nat) (ht : stp (till : Int) y = t) : Inv W b (pos + 1) [] t (done ++ [(pos : Int)]) := by
  refine ⟨fun k => ?_, fun i hi => ?_, (fun q hq => by cases hq), List.Pairwise.nil, ?_, (fun i _ _ q hq => by cases hq)⟩
  · rw [List.mem_append, h.mem]
    constructor
    · rintro (⟨h1, h2⟩ | h1)
      · exact ⟨by omega, h2⟩
      · have : (k : Int) = pos := by simpa using h1
        exact ⟨by omega, by simp⟩
    · rintro ⟨h1, _⟩
      by_cases hk : k = pos
      · exact Or.inr (by simp [hk])
      · exact Or.inl ⟨by omega, by simp⟩
  · rcases List.mem_append.1 hi with hi | hi
    · have := h.rng i hi; omega
    · have : i = pos := by simpa using hi
      omega
  · rw [end_map, h.coin, ltr_at hy, ht]
theorem Inv.ok (h : Inv W b pos [] till done) {y : UInt8} (hy : W[pos]? = some y) (ht : 0 ≤ stp (till : Int) y) : StepOk W b done pos := by
  have hpl : pos < W.length := (List.getElem?_eq_some_iff.1 hy).1
  have hall : ∀ k : Nat, (k : Int) < pos → (k : Int) ∈ done := fun k hk => (h.mem k).2 ⟨by omega, by simp⟩
  refine ⟨by omega, by omega, fun hm => ?_, by rw [end_map, h.coin, ltr_at hy]; exact ht, fun _ k hk => Or.inl (hall k hk), fun _ k hk => Or.inl (hall k hk), fun j hj _ => ?_⟩
  · have := (h.mem pos).1 hm
    omega
  · have := h.rng j hj
    omega
theorem Inv.wait (h : Inv W b pos Q 0 done) (hy : W[pos]? = some 110) : Inv W b (pos + 1) (Q ++ [(pos : Int)]) 0 done := by
  refine ⟨fun k => ?_, fun i hi => by have := h.rng i hi; omega, fun q hq => ?_, ?_, h.coin, fun i hi hn q hq => ?_⟩
  · rw [h.mem, List.mem_append]
    constructor
    · rintro ⟨h1, h2⟩
      refine ⟨by omega, fun h3 => h3.elim h2 (fun h3 => ?_)⟩
      have : (k : Int) = pos := by simpa using h3
      omega
    · rintro ⟨h1, h2⟩
      refine ⟨?_, fun h3 => h2 (Or.inl h3)⟩
      rcases Nat.lt_or_ge k pos with h3 | h3
      · exact h3
      · exact absurd (Or.inr (by simp; omega)) h2
  · rcases List.mem_append.1 hq with hq | hq
    · obtain ⟨k, h1, h2, h3⟩ := h.qn q hq
      exact ⟨k, h1, by omega, h3⟩
    · exact ⟨pos, by simpa using hq, by omega, hy⟩
  · rw [List.pairwise_append]
    refine ⟨h.qs, by simp, fun q hq c hc => ?_⟩
    obtain ⟨k, h1, h2, _⟩ := h.qn q hq
    have : c = pos := by simpa using hc
    omega
  · rcases List.mem_append.1 hq with hq | hq
    · exact h.fifo i hi hn q hq
    · have h1 := h.rng i hi
      have : q = pos := by simpa using hq
      omega
theorem Inv.paid {x : Int} {Q2 : List Int} (h : Inv W b pos (x :: Q2) 0 done) (hy : W[pos]? = some 99) :
    StepOk W b done pos ∧ StepOk W b (done ++ [(pos : Int)]) x ∧ Inv W b (pos + 1) Q2 0 ((done ++ [(pos : Int)]) ++ [x]) := by
  have hpl : pos < W.length := (List.getElem?_eq_some_iff.1 hy).1
  obtain ⟨kx, rfl, hxp, hxl⟩ := h.qn x (by simp)
  have hyl := ltr_at hy
  have hxl2 := ltr_at hxl
  have hxn : (kx : Int) ∉ done := fun hm => ((h.mem kx).1 hm).2 (by simp)
  have hpn : (pos : Int) ∉ done := fun hm => by have := ((h.mem pos).1 hm).1; omega
  have hqs := h.qs
  rw [List.pairwise_cons] at hqs
  have hun : ∀ k : Nat, k < pos → (k : Int) ∈ done ∨ ltr W k ≠ 99 := fun k hk => by
    by_cases hq : (k : Int) ∈ (kx : Int) :: Q2
    · right
      obtain ⟨k2, h1, _, h3⟩ := h.qn _ hq
      obtain rfl : k = k2 := by omega
      rw [ltr_at h3]; decide
    · exact Or.inl ((h.mem k).2 ⟨hk, hq⟩)
  have hc1 : endT b ((done ++ [(pos : Int)]).map (ltr W)) = 1 := by
    rw [end_map, h.coin, hyl]; rfl
  refine ⟨⟨by omega, by omega, hpn, by rw [hc1]; omega, fun h1 => by rw [hyl] at h1; exact absurd h1 (by decide), fun _ k hk => ?_, fun j hj _ => ?_⟩,
    ⟨by omega, by omega, fun hm => ?_, ?_, fun _ k hk => ?_, fun h1 => by rw [hxl2] at h1; exact absurd h1 (by decide), fun j hj hk => ?_⟩, ⟨fun k => ?_, fun i hi => ?_, fun q hq => ?_, hqs.2, ?_, fun i hi hn q hq => ?_⟩⟩
  · rcases hun k (by omega) with h1 | h1
    · exact Or.inl h1
    · exact Or.inr ⟨h1, by rw [h.coin]; exact Int.le_refl _⟩
  · have := h.rng j hj
    omega
  · rcases List.mem_append.1 hm with hm | hm
    · exact hxn hm
    · have : (kx : Int) = pos := by simpa using hm
      omega
  · rw [end_map, hc1, hxl2]; decide
  · rcases hun k (by omega) with h1 | h1
    · exact Or.inl (by simp [h1])
    · exact Or.inr h1
  · rcases List.mem_append.1 hj with hj | hj
    · exact h.fifo j hj (by rw [hk, hxl2]) _ (by simp)
    · have : j = pos := by simpa using hj
      subst this
      rw [hyl, hxl2] at hk
      exact absurd hk (by decide)
  · rw [List.mem_append, List.mem_append, h.mem]
    have hkx : (kx : Int) ∉ Q2 := fun hm => by have := hqs.1 _ hm; omega
    constructor
    · rintro ((⟨h1, h2⟩ | h1) | h1)
      · exact ⟨by omega, fun h3 => h2 (by simp [h3])⟩
      · have : (k : Int) = pos := by simpa using h1
        refine ⟨by omega, fun h3 => ?_⟩
        obtain ⟨k2, h4, h5, _⟩ := h.qn _ (List.mem_cons_of_mem _ h3)
        omega
      · have : (k : Int) = kx := by simpa using h1
        rw [this]
        exact ⟨by omega, hkx⟩
    · rintro ⟨h1, h2⟩
      by_cases hk : k = kx
      · exact Or.inr (by simp [hk])
      · by_cases hk2 : k = pos
        · exact Or.inl (Or.inr (by simp [hk2]))
        · refine Or.inl (Or.inl ⟨by omega, fun h3 => ?_⟩)
          rcases List.mem_cons.1 h3 with h3 | h3
          · omega
          · exact h2 h3
  · rcases List.mem_append.1 hi with hi | hi
    · rcases List.mem_append.1 hi with hi | hi
      · have := h.rng i hi; omega
      · have : i = pos := by simpa using hi
        omega
    · have : i = kx := by simpa using hi
      omega
  · obtain ⟨k, h1, h2, h3⟩ := h.qn q (by simp [hq])
    exact ⟨k, h1, by omega, h3⟩
  · rw [end_map, hc1, hxl2]; rfl
  · rcases List.mem_append.1 hi with hi | hi
    · rcases List.mem_append.1 hi with hi | hi
      · exact h.fifo i hi hn q (by simp [hq])
      · have : i = pos := by simpa using hi
        subst this
        rw [hyl] at hn
        exact absurd hn (by decide)
    · have : i = kx := by simpa using hi
      have := hqs.1 q hq
      omega
end
theorem wait_free {l : Word} {b pos p t : Nat} {Q : List Int} (h : Wait l b pos p Q t) (hQ : Q ≠ []) : t = 0 := by
  rcases Nat.eq_zero_or_pos t with h1 | h1
  · exact h1
  · obtain ⟨pn, pc, one, q, te⟩ := h
    refine absurd ?_ hQ
    rw [q, List.drop_eq_nil_iff]
    omega
/-- all of them are served as the law asks, and nobody is left out -/
theorem srv_chk {W : Word} {b : Nat} (hok : okT W = true) (hle : (nP W 0).length ≤ (serC W b).length) : ∀ (d pos p : Nat) (Q : List Int) (till : Nat) (done : List Int), d + pos = W.length → Wait W b pos p Q till → Inv W b pos Q till done →
    Chk W b done (srvT (nP W 0) (serC W b) (W.drop pos) pos p) ∧ (srvT (nP W 0) (serC W b) (W.drop pos) pos p).length = d + Q.length := by
  intro d
  induction d with
  | zero =>
    intro pos p Q till done hd hw hi
    obtain rfl : pos = W.length := by omega
    rw [List.drop_length, srvT]
    refine ⟨trivial, ?_⟩
    rw [(hw.last).2 hle]
    rfl
  | succ d ih =>
    intro pos p Q till done hd hw hi
    have hpl : pos < W.length := by omega
    obtain ⟨y, hy⟩ : ∃ y, W[pos]? = some y := ⟨_, List.getElem?_eq_getElem hpl⟩
    have hst := srv_step hw hy
    rcases okT_at hok (List.mem_of_getElem? hy) with rfl | rfl
    · obtain ⟨h1, h2⟩ := hst Q (till + 1) rfl rfl
      cases Q with
      | nil =>
        obtain ⟨hw1, e⟩ := h1 (Or.inl rfl)
        rw [e hle, if_pos rfl]
        obtain ⟨i1, i2⟩ := ih (pos + 1) p [] (till + 1) (done ++ [(pos : Int)]) (by omega) hw1 (hi.put hy _ rfl)
        exact ⟨⟨hi.ok hy (by show (0 : Int) ≤ (till : Int) + 1; omega), i1⟩, by rw [List.length_append, i2]; simp; omega⟩
      | cons x Q2 =>
        obtain rfl := wait_free hw (by simp)
        obtain ⟨hw1, e⟩ := h2 x Q2 rfl (by omega)
        rw [e hle, if_pos rfl]
        obtain ⟨s1, s2, hi2⟩ := hi.paid hy
        obtain ⟨i1, i2⟩ := ih (pos + 1) (p + 1) Q2 0 _ (by omega) hw1 hi2
        exact ⟨⟨s1, s2, i1⟩, by rw [List.length_append, List.length_cons (a := x), i2]; simp; omega⟩
    · obtain ⟨h1, h2⟩ := hst (Q ++ [(pos : Int)]) till rfl rfl
      rcases Nat.eq_zero_or_pos till with ht | ht
      · subst ht
        obtain ⟨hw1, e⟩ := h1 (Or.inr rfl)
        rw [e hle, if_neg (by decide), List.nil_append]
        obtain ⟨i1, i2⟩ := ih (pos + 1) p (Q ++ [(pos : Int)]) 0 done (by omega) hw1 (hi.wait hy)
        exact ⟨i1, by rw [i2]; simp; omega⟩
      · obtain rfl : Q = [] := by
          cases Q with
          | nil => rfl
          | cons a r => have := wait_free hw (by simp); omega
        obtain ⟨hw1, e⟩ := h2 (pos : Int) [] rfl ht
        rw [e hle, if_neg (by decide), List.nil_append]
        have hs : stp (till : Int) 110 = ((till - 1 : Nat) : Int) := by unfold stp; rw [if_neg (by decide)]; omega
        obtain ⟨i1, i2⟩ := ih (pos + 1) (p + 1) [] (till - 1) (done ++ [(pos : Int)]) (by omega) hw1 (hi.put hy _ hs)
        exact ⟨⟨hi.ok hy (by rw [hs]; omega), i1⟩, by rw [List.length_cons, i2]; simp⟩
/-- in a good order nobody waits -/
theorem srv_id {W : Word} {b : Nat} (hok : okT W = true) (hg : lacksT W b < 0) (hle : (nP W 0).length ≤ (serC W b).length) : ∀ (d pos p till : Nat) , d + pos = W.length → Wait W b pos p [] till → endT b (W.take pos) = till →
    ∀ j x, (srvT (nP W 0) (serC W b) (W.drop pos) pos p)[j]? = some x → x = ((pos + j : Nat) : Int) := by
  intro d
  induction d with
  | zero =>
    intro pos p till hd _ _ j x h
    obtain rfl : pos = W.length := by omega
    rw [List.drop_length, srvT] at h
    simp at h
  | succ d ih =>
    intro pos p till hd hw he j x h
    have hpl : pos < W.length := by omega
    obtain ⟨y, hy⟩ : ∃ y, W[pos]? = some y := ⟨_, List.getElem?_eq_getElem hpl⟩
    have hst := srv_step hw hy
    have het : endT b (W.take (pos + 1)) = stp till y := by rw [List.take_add_one, hy, Option.toList_some, end_snoc, he]
    have hge := lacks_end hg hpl
    rcases okT_at hok (List.mem_of_getElem? hy) with rfl | rfl
    · obtain ⟨h1, _⟩ := hst [] (till + 1) rfl rfl
      obtain ⟨hw1, e⟩ := h1 (Or.inl rfl)
      rw [e hle, if_pos rfl] at h
      cases j with
      | zero =>
        simp at h
        rw [← h]; rfl
      | succ j =>
        have := ih (pos + 1) p (till + 1) (by omega) hw1 (by rw [het]; rfl) j x (by simpa using h)
        rw [this]; congr 1; omega
    · have ht : 0 < till := by
        rw [het] at hge
        have : stp (till : Int) 110 = (till : Int) - 1 := rfl
        omega
      obtain ⟨_, h2⟩ := hst [(pos : Int)] till rfl rfl
      obtain ⟨hw1, e⟩ := h2 (pos : Int) [] rfl ht
      rw [e hle, if_neg (by decide), List.nil_append] at h
      cases j with
      | zero =>
        simp at h
        rw [← h]; rfl
      | succ j =>
        have hs : stp (till : Int) 110 = ((till - 1 : Nat) : Int) := by unfold stp; rw [if_neg (by decide)]; omega
        have := ih (pos + 1) (p + 1) (till - 1) (by omega) hw1 (by rw [het, hs]) j x (by simpa using h)
        rw [this]; congr 1; omega
/-- all of it, from the beginning -/
theorem ser_all {W : Word} {b : Nat} (hok : okT W = true) (hop : opT W b = 0) (hle : (nP W 0).length ≤ (serC W b).length) :
    (∀ (j : Nat) i, (serL W b)[j]? = some i → StepOk W b ((serL W b).take j) i) ∧ (serL W b).length = W.length ∧ serE W b = 0 ∧ (lacksT W b < 0 → ∀ (j : Nat) x, (serL W b)[j]? = some x → x = (j : Int)) := by
  have eL : serL W b = srvT (nP W 0) (serC W b) W 0 0 := by unfold serL; rw [Int.toNat_natCast, if_pos ⟨hop, hle⟩]
  have eE : serE W b = 0 := by unfold serE; rw [hop, Int.toNat_natCast]; simp [hle]
  obtain ⟨h1, h2⟩ := srv_chk hok hle W.length 0 0 [] b [] (by omega) (Wait.start W b) (Inv.start W b)
  rw [List.drop_zero] at h1 h2
  rw [eL]
  refine ⟨fun j i hj => by simpa using chk_at _ [] h1 j i hj, by simpa using h2, eE, fun hg j x hj => ?_⟩
  have := srv_id hok hg hle W.length 0 0 b (by omega) (Wait.start W b) rfl j x (by rw [List.drop_zero]; exact hj)
  rw [this]; congr 1; omega
theorem cP_count (l : Word) : okT l = true → ∀ i, (cP l i).length = l.count 99 ∧ (nP l i).length = l.count 110 := by
  induction l with
  | nil => intro _ i; exact ⟨rfl, rfl⟩
  | cons c l ih =>
    intro h i
    have hc := okT_at h (c := c) (by simp)
    obtain ⟨h1, h2⟩ := ih (by unfold okT at h ⊢; rw [List.all_cons] at h; simp at h; simpa using h.2) (i + 1)
    rcases hc with rfl | rfl
    · rw [cP, nP, if_pos rfl, if_pos rfl, List.length_cons, h1, h2, List.count_cons_self, List.count_cons_of_ne (by decide)]
      exact ⟨rfl, rfl⟩
    · rw [cP, nP, if_neg (by decide), if_neg (by decide), List.length_cons, h1, h2, List.count_cons_self, List.count_cons_of_ne (by decide)]
      exact ⟨rfl, rfl⟩
/-- there are coins for all just if there are no fewer than none at the end -/
theorem ser_le {W : Word} {b : Nat} (hok : okT W = true) : (nP W 0).length ≤ (serC W b).length ↔ 0 ≤ endT b W := by
  obtain ⟨h1, h2⟩ := cP_count W hok 0
  have : (serC W b).length = b + (cP W 0).length := by simp [serC]
  rw [this, h1, h2, end_count W hok]
  omega
theorem ser_none {W : Word} {b : Nat} (hop : opT W b = 0) (h : ¬ (nP W 0).length ≤ (serC W b).length) : serL W b = [] ∧ serE W b = 12 := by
  unfold serL serE
  rw [hop, Int.toNat_natCast, if_neg (fun h2 => h h2.2), if_neg (by omega), if_neg h]
  exact ⟨rfl, rfl⟩
end Go.Proofs.YtfcfhiekkpflcaaDoor
