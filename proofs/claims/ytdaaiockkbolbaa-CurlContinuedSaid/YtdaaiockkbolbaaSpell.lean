/- The law's spelled; plain facts on repeats: the reverse, the best one. -/
import Derived.Test.YtdaaiockkbolbaaThueP
import Derived.Test.YtdaaiockkbolbaaBackK
namespace Go.Proofs.Ytdaaiockkbolbaa
open Go.RowKit
/-- letters by numbers -/
def spS (k : Nat) (bs : List Nat) : Word := bs.map fun b => (97 + b % k).toUInt8
theorem spS_letters {k : Nat} (h1 : 1 ≤ k) (h4 : k ≤ 4) (bs : List Nat) : lettersS (spS k bs) (k : Int) = true := by
  simp only [lettersS, List.all_eq_true, Bool.and_eq_true, decide_eq_true_eq]
  intro b hb
  obtain ⟨x, _, rfl⟩ := List.mem_map.1 hb
  have := Nat.mod_lt x (show k > 0 by omega)
  rw [Nat.toUInt8, UInt8.toNat_ofNat']
  omega
set_option maxRecDepth 100000 in
set_option maxHeartbeats 4000000 in
theorem spelled_any (A : Option Addr) (n c : Nat) (bs : List Nat) (k m : Nat) (w : World) (B : Nat) (hr : Reads w B 1 A n (bs.map fun b : Nat => Value.int .u8 (b : Int))) (hn : n ≤ maxLen) (hb8 : ∀ b ∈ bs, b < 256) (h1 : 1 ≤ k) (h4 : k ≤ 4) (hm : m ≤ 1000) :
    Calls Try.prog 40 #[.slice A n c, .int .i64 k, .int .i64 m] w fun e w' => e = .returned (.string ⟨(spS k (bs.take m)).toArray⟩) ∧ Below w.heap.size w w' := by
  have hl : bs.length = n := by have := hr.1; simpa using this
  have hlH := Lib.hid hl
  have hb8H := Lib.hid hb8
  unfold maxLen at hn
  have hk0 : ((k : Int) == 0) = false := by simp; omega
  have hk1 : (1 : Int) ≤ k := by omega
  clear hl hb8
  go_enter Try.func40, Try.ntmps40
  go_wp2_with (fail)
  go_loopw [7, 12] (fun o v wr => ∃ i : Nat, i ≤ n ∧ i ≤ m ∧ v = .int .i64 i ∧ o = .string ⟨(spS k (bs.take i)).toArray⟩ ∧ w = wr) (fun _ v _ => n - (intOf v).toNat)
  case atStart => exact ⟨0, by omega, by omega, rfl, rfl, rfl⟩
  case round =>
    obtain ⟨i, hin, him, rfl, rfl, rfl⟩ := hrel
    by_cases hlt : i < n
    · have hlti : (i : Int) < n := by omega
      obtain ⟨ad, u, rfl, hadb, hu, hcell⟩ := Reads.at_ hr hlt
      obtain ⟨b, hb⟩ : ∃ b, bs[i]? = some b := ⟨_, List.getElem?_eq_getElem (by rw [hlH.out]; exact hlt)⟩
      obtain rfl : u = .int .u8 (b : Int) := by
        rw [List.getElem?_map, hb] at hu
        simpa using hu.symm
      have hb2 := hb8H.out b (List.mem_of_getElem? hb)
      by_cases hem : i = m
      · have hemi : ((i : Int) == m) = true := by simp [hem]
        have hR := Lib.hid (show spS k (bs.take m) = spS k (bs.take i) by rw [hem])
        clear hu hb hem
        go_wp2_with (fail)
        go_ret
        exact ⟨by rw [hR.out]; rfl, Below.refl _ _⟩
      · have hemi : ((i : Int) == m) = false := by simp; omega
        obtain ⟨q1, q2⟩ := mod_facts b k
        obtain ⟨r, hrr⟩ : ∃ r, b % k = r := ⟨_, rfl⟩
        have hrk : r < k := by rw [← hrr]; exact Nat.mod_lt _ (by omega)
        rw [hrr] at q1 q2
        have hN := Lib.hid (show spS k (bs.take (i + 1)) = spS k (bs.take i) ++ [(97 + r).toUInt8] by rw [List.take_add_one, hb, ← hrr]; simp [spS])
        have hlet := Lib.hid (fun w' => letter_any (k := r) (by omega) w')
        obtain ⟨S, hS⟩ : ∃ S, spS k (bs.take i) = S := ⟨_, rfl⟩
        have hSl : S.length ≤ 1000 := by rw [← hS]; simp [spS]; omega
        rw [hS] at hN ⊢
        obtain ⟨y, hy⟩ : ∃ y : ByteArray, (⟨#[(97 + r).toUInt8]⟩ : ByteArray) = y := ⟨_, rfl⟩
        rw [hy] at hlet
        have hcat := Lib.hid (show (⟨S.toArray⟩ : ByteArray) ++ y = ⟨(S ++ [(97 + r).toUInt8]).toArray⟩ by rw [← hy, mk_append])
        have hys1 : y.size ≤ 1 := by rw [← hy]; exact Nat.le_refl 1
        have hys : (y.size : Int) ≤ 8388608 := by omega
        have hSz : (⟨S.toArray⟩ : ByteArray).size = S.length := rfl
        have hSi : ((⟨S.toArray⟩ : ByteArray).size : Int) ≤ 8388608 := by rw [hSz]; omega
        have hadd : ∀ w', (Op.stringOp .add ⟨S.toArray⟩ y).run Try.prog w' = .ok (.string (⟨S.toArray⟩ ++ y)) w' := fun w' => run_string_add w' _ y hSi hys
        have him2 : i + 1 ≤ m := by omega
        clear hu hb hem hS hy hrr
        go_wp2_with (first
          | (go_at_call 42; refine (hlet.out _).mono ?_; rintro e w4 ⟨rfl, rfl⟩))
        go_roundw
        case rel => exact ⟨i + 1, by omega, him2, by go_num, by rw [hN.out, ← hcat.out], by first | rfl | trivial⟩
        case measure => simp only [intOf]; omega
    · have hlti : ¬ (i : Int) < n := by omega
      have hR := Lib.hid (show spS k (bs.take m) = spS k (bs.take i) by rw [List.take_of_length_le (show bs.length ≤ i by rw [hlH.out]; omega), List.take_of_length_le (by rw [hlH.out]; omega)])
      go_wp2_with (fail)
      go_ret
      exact ⟨by rw [hR.out]; rfl, Below.refl _ _⟩
theorem sq_rev {l : Word} {a k : Nat} (h : a + 2 * k ≤ l.length) : sqAt l.reverse a k = sqAt l (l.length - 2 * k - a) k := by
  rw [Bool.eq_iff_iff, sq_iff, sq_iff]
  constructor
  · intro e i hi
    have := e (k - 1 - i) (by omega)
    rw [List.getElem?_reverse (by omega), List.getElem?_reverse (by omega)] at this
    rw [show l.length - 1 - (a + (k - 1 - i)) = l.length - 2 * k - a + k + i by omega, show l.length - 1 - (a + k + (k - 1 - i)) = l.length - 2 * k - a + i by omega] at this
    exact this.symm
  · intro e i hi
    have := e (k - 1 - i) (by omega)
    rw [List.getElem?_reverse (by omega), List.getElem?_reverse (by omega)]
    rw [show l.length - 1 - (a + i) = l.length - 2 * k - a + k + (k - 1 - i) by omega, show l.length - 1 - (a + k + i) = l.length - 2 * k - a + (k - 1 - i) by omega]
    exact this.symm
theorem row_rev (l : Word) {k : Nat} : (rowN l.reverse k (l.length + 1 - 2 * k)).length = (rowN l k (l.length + 1 - 2 * k)).length := by
  unfold rowN
  rw [List.length_map, List.length_map]
  by_cases hk : 2 * k ≤ l.length
  · obtain ⟨m, hm⟩ : ∃ m, l.length + 1 - 2 * k = m := ⟨_, rfl⟩
    rw [hm]
    have e : (List.range m).filter (fun a => sqAt l.reverse a k) = (List.range m).filter (fun a => sqAt l (m - 1 - a) k) := by
      apply List.filter_congr
      intro a ha
      rw [List.mem_range] at ha
      rw [sq_rev (by omega), show l.length - 2 * k - a = m - 1 - a by omega]
    rw [e]
    have e2 : (List.range m).reverse = (List.range m).map fun a => m - 1 - a := by
      apply List.ext_getElem?
      intro i
      by_cases hi : i < m
      · rw [List.getElem?_reverse (by simpa using hi), List.length_range, List.getElem?_range (by omega), List.getElem?_map, List.getElem?_range hi]
        rfl
      · rw [List.getElem?_eq_none (by simp; omega), List.getElem?_eq_none (by simp; omega)]
    have e3 : ((List.range m).reverse.filter fun a => sqAt l a k).length = ((List.range m).filter fun a => sqAt l a k).length := by
      rw [List.filter_reverse, List.length_reverse]
    rw [← e3, e2, List.filter_map, List.length_map]
    rfl
  · have : l.length + 1 - 2 * k = 0 := by omega
    rw [this]; rfl
theorem tw_rev (l : Word) : (twL l.reverse).length = (twL l).length := by
  unfold twL
  rw [List.length_reverse]
  generalize l.length / 2 = m
  induction m with
  | zero => rfl
  | succ m ih =>
    rw [twN_succ, twN_succ, List.length_append, List.length_append, ih, List.length_reverse, row_rev]
theorem clean_rev (l : Word) : cleanS l.reverse = cleanS l := by
  rw [← tw_len, ← tw_len, tw_rev]
/-- the better of two repeats: the one that ends first, of those the smaller -/
def betB (b x : Nat × Nat) : Bool := decide (x.1 + 2 * x.2 < b.1 + 2 * b.2) || (x.1 + 2 * x.2 == b.1 + 2 * b.2 && decide (x.2 < b.2))
def bestF (b : Nat × Nat) (l : List (Nat × Nat)) : Nat × Nat := l.foldl (fun b x => if betB b x then x else b) b
def leP (b x : Nat × Nat) : Prop := b.1 + 2 * b.2 < x.1 + 2 * x.2 ∨ (b.1 + 2 * b.2 = x.1 + 2 * x.2 ∧ b.2 ≤ x.2)
theorem best_le (l : List (Nat × Nat)) : ∀ b, leP (bestF b l) b ∧ (∀ x ∈ l, leP (bestF b l) x) ∧ (bestF b l = b ∨ bestF b l ∈ l) := by
  induction l with
  | nil => intro b; exact ⟨Or.inr ⟨rfl, Nat.le_refl _⟩, fun x hx => by simp at hx, Or.inl rfl⟩
  | cons y l ih =>
    intro b
    have e : bestF b (y :: l) = bestF (if betB b y then y else b) l := rfl
    obtain ⟨h1, h2, h3⟩ := ih (if betB b y then y else b)
    rw [e]
    by_cases hb : betB b y = true
    · rw [if_pos hb] at h1 h2 h3 ⊢
      simp only [betB, Bool.or_eq_true, Bool.and_eq_true, decide_eq_true_eq, beq_iff_eq] at hb
      refine ⟨?_, fun x hx => ?_, ?_⟩
      · unfold leP at h1 ⊢; omega
      · rcases List.mem_cons.1 hx with rfl | hx
        · exact h1
        · exact h2 x hx
      · rcases h3 with h3 | h3
        · right; rw [h3]; simp
        · right; simp [h3]
    · rw [if_neg hb] at h1 h2 h3 ⊢
      simp only [betB, Bool.or_eq_true, Bool.and_eq_true, decide_eq_true_eq, beq_iff_eq, not_or, not_and] at hb
      refine ⟨h1, fun x hx => ?_, ?_⟩
      · rcases List.mem_cons.1 hx with rfl | hx
        · unfold leP at h1 ⊢; omega
        · exact h2 x hx
      · rcases h3 with h3 | h3
        · exact Or.inl h3
        · right; simp [h3]
theorem rep_least {l : Word} (h : cleanS l = false) : ∃ e k, repS l 0 = (e, k) ∧ 0 < k ∧ (e - 2 * k, k) ∈ twL l ∧ 2 * k ≤ e ∧ ∀ x ∈ twL l, leP (e - 2 * k, k) x := by
  unfold cleanS at h
  have hk : 0 < (repS l 0).2 := by
    rcases Nat.eq_zero_or_pos (repS l 0).2 with h0 | h0
    · rw [h0] at h; cases h
    · exact h0
  unfold repS at hk ⊢
  cases hf : (List.range' (0 + 1) (l.length - 0)).find? (fun e => decide (0 < endsS (l.take e))) with
  | none => rw [hf] at hk; simp at hk
  | some e =>
    rw [List.find?_range'_eq_some] at hf
    obtain ⟨h1, h2, h3⟩ := hf
    have h1' : 0 < endsS (l.take e) := by simpa using h1
    have h2' : 1 ≤ e ∧ e < 1 + l.length := by simpa using h2
    obtain ⟨k1, k2, k3⟩ := endsS_pos h1'
    rw [List.length_take, Nat.min_eq_left (by omega)] at k1
    refine ⟨e, endsS (l.take e), rfl, h1', ?_, k1, fun x hx => ?_⟩
    · rw [tail_sq (by omega) k1] at k2
      exact tw_mem.2 ⟨h1', by omega, k2⟩
    · obtain ⟨a, j⟩ := x
      obtain ⟨m1, m2, m3⟩ := tw_mem.1 hx
      have m4 : tailEq (l.take (a + 2 * j)) j = true := by
        rw [tail_sq m2 (by omega), show a + 2 * j - 2 * j = a by omega]; exact m3
      have hge : e ≤ a + 2 * j := by
        rcases Nat.lt_or_ge (a + 2 * j) e with hlt | hge
        · exfalso
          have h4 := h3 (a + 2 * j) (by omega) hlt
          have h5 : endsS (l.take (a + 2 * j)) = 0 := by
            have : ¬ 0 < endsS (l.take (a + 2 * j)) := by simpa using h4
            omega
          have := endsS_zero h5 j m1 (by rw [List.length_take]; omega)
          rw [m4] at this; cases this
        · exact hge
      unfold leP
      by_cases heq : a + 2 * j = e
      · right
        refine ⟨by omega, ?_⟩
        rcases Nat.lt_or_ge j (endsS (l.take e)) with hlt | hge2
        · have := k3 j m1 hlt
          rw [← heq] at this
          rw [m4] at this; cases this
        · exact hge2
      · left
        show e - 2 * _ + 2 * _ < _
        omega
/-- the best of all repeats is the one that is returned -/
theorem best_rep {l : Word} {b : Nat × Nat} {r : List (Nat × Nat)} (hc : cleanS l = false) (h : twL l = b :: r) : bestF b (twL l) = repR l := by
  obtain ⟨e, k, h1, h2, h3, h4, h5⟩ := rep_least hc
  rw [repR_hit h1 h2]
  obtain ⟨b1, b2, b3⟩ := best_le (twL l) b
  have hm : bestF b (twL l) ∈ twL l := by
    rcases b3 with h | h
    · rw [h, ‹twL l = b :: r›]; simp
    · exact h
  have q1 := h5 _ hm
  have q2 := b2 _ h3
  obtain ⟨z, hz⟩ : ∃ z, bestF b (twL l) = z := ⟨_, rfl⟩
  rw [hz] at q1 q2 ⊢
  clear hz hm b1 b2 b3
  obtain ⟨x, y⟩ := z
  replace q1 : (e - 2 * k) + 2 * k < x + 2 * y ∨ ((e - 2 * k) + 2 * k = x + 2 * y ∧ k ≤ y) := q1
  replace q2 : x + 2 * y < (e - 2 * k) + 2 * k ∨ (x + 2 * y = (e - 2 * k) + 2 * k ∧ y ≤ k) := q2
  have e1 : y = k := by omega
  have e2 : x = e - 2 * k := by omega
  rw [e1, e2]
end Go.Proofs.Ytdaaiockkbolbaa
