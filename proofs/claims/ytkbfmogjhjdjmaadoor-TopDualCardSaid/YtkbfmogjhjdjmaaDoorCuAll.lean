/- The texts CuWords, CuEnds, CuRepeat, CuRune, CuCheck, CuBegun, CuRow, CuBuild, CuWalk, CuEach, CuNext, CuLonger in one. -/
import Derived.Test.YtkbfmogjhjdjmaaDoorKit
import Derived.Lib.Strings
import Derived.Laws.Strings
import Derived.Test.YtkbfmogjhjdjmaaDoorProg
import Derived.Test.YtkbfmogjhjdjmaaDoorShelf
import Derived.Lib.OthersKept
import Derived.Laws.Runes
import Derived.Laws.RangeAny
import Derived.ArgAppend
import Derived.Laws.IdiomStrings
/- Words as lists of bytes: what the program and the reference reckon. No program in sight. -/
namespace Go.Proofs.YtkbfmogjhjdjmaaDoor.Cu
open Go.RowKit
abbrev Word := List UInt8
/-- the bytes of a string -/
def bts (s : ByteArray) : Word := s.data.toList
theorem bts_len (s : ByteArray) : (bts s).length = s.size := Array.length_toList
theorem bts_inj {s t : ByteArray} (h : bts s = bts t) : s = t := by
  cases s; cases t
  have := Array.toList_inj.1 h
  simp only at this
  rw [this]
theorem bts_extract (s : ByteArray) (a b : Nat) : bts (s.extract a b) = ((bts s).take b).drop a := by
  unfold bts
  rw [ByteArray.data_extract, Array.toList_extract, List.extract_eq_take_drop, List.drop_take]
theorem bts_at (s : ByteArray) (k : Nat) (h : k < s.size) : (bts s)[k]? = some s[k] := by
  unfold bts
  rw [Array.getElem?_toList]
  exact Array.getElem?_eq_getElem h
/-- whether a word ends with two equal parts of so many letters -/
def tailEq (l : Word) (k : Nat) : Bool := l.drop (l.length - k) == (l.take (l.length - k)).drop (l.length - 2 * k)
theorem tail_go (s : ByteArray) {k u v : Nat} (hu : u + k = s.size) (hv : v + 2 * k = s.size) : ((s.extract u s.size).toList == (s.extract v u).toList) = tailEq (bts s) k := by
  rw [ByteArray.toList_eq, ByteArray.toList_eq]
  show (bts (s.extract u s.size) == bts (s.extract v u)) = _
  rw [bts_extract, bts_extract, tailEq, bts_len]
  rw [show s.size - k = u by omega, show s.size - 2 * k = v by omega]
  rw [List.take_of_length_le (by rw [bts_len]; exact Nat.le_refl _)]
/-- the last letter of each part -/
theorem tail_last {s : ByteArray} {k p q : Nat} (hk : 1 ≤ k) (hn : 2 * k ≤ s.size) (hq : q + 1 = s.size) (hp : p + k = q) (hql : q < s.size) (hpl : p < s.size) (hne : s[p] ≠ s[q]) : tailEq (bts s) k = false := by
  rw [Bool.eq_false_iff]
  intro h
  have h2 := eq_of_beq h
  have h3 := congrArg (fun l : Word => l[k - 1]?) h2
  simp only [List.getElem?_drop, List.getElem?_take, bts_len] at h3
  rw [if_pos (by omega), show s.size - k + (k - 1) = q by omega, show s.size - 2 * k + (k - 1) = p by omega, bts_at _ _ hql, bts_at _ _ hpl] at h3
  exact hne (Option.some.inj h3).symm
/-- the size of the smallest repeat with which a word ends, or 0 -/
def endsS (l : Word) : Nat := ((List.range (l.length / 2)).find? fun j => tailEq l (j + 1)).elim 0 (· + 1)
theorem endsS_hit {l : Word} {k : Nat} (h1 : 1 ≤ k) (h2 : 2 * k ≤ l.length) (ht : tailEq l k = true) (hm : ∀ j, 1 ≤ j → j < k → tailEq l j = false) : endsS l = k := by
  unfold endsS
  have : (List.range (l.length / 2)).find? (fun j => tailEq l (j + 1)) = some (k - 1) := by
    rw [List.find?_range_eq_some]
    refine ⟨by rw [show k - 1 + 1 = k by omega]; exact ht, by simp; omega, fun j hj => ?_⟩
    rw [hm (j + 1) (by omega) (by omega)]; rfl
  rw [this]
  show k - 1 + 1 = k
  omega
theorem endsS_none {l : Word} (hm : ∀ j, 1 ≤ j → 2 * j ≤ l.length → tailEq l j = false) : endsS l = 0 := by
  unfold endsS
  have : (List.range (l.length / 2)).find? (fun j => tailEq l (j + 1)) = none := by
    rw [List.find?_range_eq_none]
    intro j hj
    rw [hm (j + 1) (by omega) (by omega)]; rfl
  rw [this]; rfl
theorem endsS_zero {l : Word} (h : endsS l = 0) (j : Nat) (h1 : 1 ≤ j) (h2 : 2 * j ≤ l.length) : tailEq l j = false := by
  unfold endsS at h
  cases hf : (List.range (l.length / 2)).find? (fun j => tailEq l (j + 1)) with
  | some k => rw [hf] at h; simp at h
  | none =>
    rw [List.find?_range_eq_none] at hf
    have := hf (j - 1) (by omega)
    rw [show j - 1 + 1 = j by omega] at this
    simpa using this
theorem endsS_pos {l : Word} (h : 0 < endsS l) : 2 * endsS l ≤ l.length ∧ tailEq l (endsS l) = true ∧ ∀ j, 1 ≤ j → j < endsS l → tailEq l j = false := by
  unfold endsS at h ⊢
  cases hf : (List.range (l.length / 2)).find? (fun j => tailEq l (j + 1)) with
  | none => rw [hf] at h; simp at h
  | some k =>
    rw [List.find?_range_eq_some] at hf
    obtain ⟨h1, h2, h3⟩ := hf
    have h2' : k < l.length / 2 := by simpa using h2
    show 2 * (k + 1) ≤ l.length ∧ tailEq l (k + 1) = true ∧ _
    refine ⟨by omega, h1, fun j hj1 hj2 => ?_⟩
    have hj2' : j < k + 1 := hj2
    have := h3 (j - 1) (by omega)
    rw [show j - 1 + 1 = j by omega] at this
    simpa using this
/-- where the first repeat ends, behind some letters that are known to be clear, and its size -/
def repS (l : Word) (known : Nat) : Nat × Nat := ((List.range' (known + 1) (l.length - known)).find? fun e => decide (0 < endsS (l.take e))).elim (0, 0) fun e => (e, endsS (l.take e))
theorem repS_hit {l : Word} {e : Nat} (h1 : 1 ≤ e) (h2 : e ≤ l.length) (hp : 0 < endsS (l.take e)) (hm : ∀ j, 1 ≤ j → j < e → endsS (l.take j) = 0) : repS l 0 = (e, endsS (l.take e)) := by
  have : (List.range' (0 + 1) (l.length - 0)).find? (fun e => decide (0 < endsS (l.take e))) = some e := by
    rw [List.find?_range'_eq_some]
    refine ⟨by simpa using hp, by simp; omega, fun j hj1 hj2 => ?_⟩
    have := hm j (by omega) hj2
    simp [this]
  unfold repS
  rw [this]; rfl
theorem repS_none {l : Word} (hm : ∀ j, 1 ≤ j → j ≤ l.length → endsS (l.take j) = 0) : repS l 0 = (0, 0) := by
  have : (List.range' (0 + 1) (l.length - 0)).find? (fun e => decide (0 < endsS (l.take e))) = none := by
    rw [List.find?_range'_eq_none]
    intro j hj1 hj2
    have := hm j (by omega) (by omega)
    simp [this]
  unfold repS
  rw [this]; rfl
theorem repS_le (l : Word) : (repS l 0).1 ≤ l.length ∧ 2 * (repS l 0).2 ≤ (repS l 0).1 := by
  unfold repS
  cases hf : (List.range' (0 + 1) (l.length - 0)).find? (fun e => decide (0 < endsS (l.take e))) with
  | none => exact ⟨Nat.zero_le _, Nat.zero_le _⟩
  | some e =>
    rw [List.find?_range'_eq_some] at hf
    obtain ⟨h1, h2, _⟩ := hf
    have h3 : 0 < endsS (l.take e) := by simpa using h1
    have h4 := (endsS_pos h3).1
    have h5 : e ≤ l.length := by simp at h2; omega
    rw [List.length_take, Nat.min_eq_left h5] at h4
    exact ⟨h5, h4⟩
theorem take_size (s : ByteArray) (e : Nat) (h : e ≤ s.size) : (s.extract 0 e).size = e := by rw [ByteArray.size_extract]; omega
theorem bts_take (s : ByteArray) (e : Nat) : bts (s.extract 0 e) = (bts s).take e := by rw [bts_extract, List.drop_zero]
def cleanS (l : Word) : Bool := (repS l 0).2 == 0
/-- place and size of the repeat that ends first, as the reference says it -/
def repR (l : Word) : Nat × Nat := if (repS l 0).2 = 0 then (0, 0) else ((repS l 0).1 - 2 * (repS l 0).2, (repS l 0).2)
theorem repR_hit {l : Word} {e k : Nat} (h : repS l 0 = (e, k)) (hk : 0 < k) : repR l = (e - 2 * k, k) := by
  unfold repR
  rw [h]
  exact if_neg (by show ¬ k = 0; omega)
theorem repR_none {l : Word} (h : repS l 0 = (0, 0)) : repR l = (0, 0) := by unfold repR; rw [h]; rfl
theorem tail_go2 (s : ByteArray) {e k u v : Nat} (he : e ≤ s.size) (hu : u + k = e) (hv : v + 2 * k = e) : ((s.extract u e).toList == (s.extract v u).toList) = tailEq ((bts s).take e) k := by
  rw [ByteArray.toList_eq, ByteArray.toList_eq]
  show (bts (s.extract u e) == bts (s.extract v u)) = _
  rw [bts_extract, bts_extract, tailEq, List.length_take, bts_len, Nat.min_eq_left he]
  rw [show e - k = u by omega, show e - 2 * k = v by omega, List.take_take, Nat.min_eq_left (by omega)]
theorem ends_short {l : Word} (h : l.length ≤ 1) : endsS l = 0 := endsS_none (fun j h1 h2 => by omega)
/-- whether all letters are of the first n -/
def lettersS (l : Word) (n : Int) : Bool := l.all fun b => decide (97 ≤ b.toNat) && decide ((b.toNat : Int) ≤ 96 + n)
/-- the highest letter -/
def highN : Word → Nat
  | [] => 0
  | b :: l => max (b.toNat - 96) (highN l)
def highS (l : Word) : Int := if lettersS l 4 then (highN l : Int) else -1
theorem highN_snoc (l : Word) (b : UInt8) : highN (l ++ [b]) = max (highN l) (b.toNat - 96) := by
  induction l with
  | nil => simp [highN]
  | cons c l ih => simp only [List.cons_append, highN, ih]; omega
theorem highN_le {l : Word} (h : lettersS l 4 = true) : highN l ≤ 4 := by
  induction l with
  | nil => simp [highN]
  | cons c l ih =>
    simp only [lettersS, List.all_cons, Bool.and_eq_true, decide_eq_true_eq] at h
    have := ih (by simp only [lettersS]; exact h.2)
    simp only [highN]; omega
theorem letters_take {l : Word} {k : Nat} {b : UInt8} {n : Int} (h : lettersS (l.take k) n = true) (hb : l[k]? = some b) (h1 : 97 ≤ b.toNat) (h2 : (b.toNat : Int) ≤ 96 + n) : lettersS (l.take (k + 1)) n = true := by
  rw [List.take_add_one, hb, lettersS, List.all_append]
  simp only [Option.toList_some, List.all_cons, List.all_nil, Bool.and_true, Bool.and_eq_true, decide_eq_true_eq]
  exact ⟨h, h1, h2⟩
theorem letters_no {l : Word} {k : Nat} {b : UInt8} {n : Int} (hb : l[k]? = some b) (h : ¬ (97 ≤ b.toNat ∧ (b.toNat : Int) ≤ 96 + n)) : lettersS l n = false := by
  rw [Bool.eq_false_iff]
  intro ha
  have := (List.all_eq_true.1 ha) b (List.mem_of_getElem? hb)
  simp only [Bool.and_eq_true, decide_eq_true_eq] at this
  exact h this
theorem high_over {l : Word} {n : Int} (h : lettersS l 4 = true) (h1 : 1 ≤ n) (h2 : n ≤ 4) : lettersS l n = decide ((highN l : Int) ≤ n) := by
  induction l with
  | nil => exact (decide_eq_true (show ((0 : Nat) : Int) ≤ n by omega)).symm
  | cons c l ih =>
    simp only [lettersS, List.all_cons, Bool.and_eq_true, decide_eq_true_eq] at h
    have := ih (by simp only [lettersS]; exact h.2)
    have e : lettersS (c :: l) n = ((decide (97 ≤ c.toNat) && decide ((c.toNat : Int) ≤ 96 + n)) && lettersS l n) := rfl
    obtain ⟨H, hH⟩ : ∃ H, highN (c :: l) = H := ⟨_, rfl⟩
    have hm : max (c.toNat - 96) (highN l) = H := hH
    rw [e, this, hH, Bool.eq_iff_iff]
    simp only [Bool.and_eq_true, decide_eq_true_eq]
    omega
/-! errors -/
def chkW (l : Word) : Int := if 600 < l.length then 3 else if lettersS l 4 then 0 else 10
theorem chkW_zero {l : Word} (h : chkW l = 0) : l.length ≤ 600 ∧ lettersS l 4 = true := by
  unfold chkW at h
  split at h
  · omega
  · split at h
    · exact ⟨by omega, by assumption⟩
    · omega
def begE (l : Word) (n : Int) : Int := if chkW l ≠ 0 then chkW l else if ¬ (1 ≤ n ∧ n ≤ 4) then 1 else if lettersS l n = false then 2 else if cleanS l = false then 14 else 0
def repE (l : Word) : Int := if chkW l ≠ 0 then chkW l else if cleanS l then 12 else 0
def repV (l : Word) : Nat × Nat := if repE l = 0 then repR l else (0, 0)
end Go.Proofs.YtkbfmogjhjdjmaaDoor.Cu
/- The program's within and ends. -/
namespace Go.Proofs.YtkbfmogjhjdjmaaDoor.Cu
open Go.RowKit
theorem within_any (n lo hi : Int) (w : World) : Calls Tryd.prog 51 #[.int .i64 n, .int .i64 lo, .int .i64 hi] w fun e w' => e = .returned (.bool (decide (lo ≤ n) && decide (n ≤ hi))) ∧ w' = w := by
  go_enter Tryd.func51, Tryd.ntmps51
  go_wp2_with (fail)
  all_goals
    go_ret
    exact ⟨congrArg (fun b => Ending.returned (.bool b)) (by first | (simp [*]; done) | (simp; omega)), rfl⟩
set_option maxRecDepth 100000 in
set_option maxHeartbeats 1000000 in
theorem ends_any (s : ByteArray) (hs : s.size ≤ 1000000000) (w : World) :
    Calls Tryd.prog 61 #[.string s] w fun e w' => e = .returned (.int .i64 (endsS (bts s) : Nat)) ∧ Below w.heap.size w w' := by
  by_cases h0 : s.size = 0
  · have hR := Lib.hid (endsS_none (l := bts s) (fun j h1 h2 => by rw [bts_len] at h2; omega))
    have h0' : ((s.size : Int) == 0) = true := by simp [h0]
    clear h0
    go_enter Tryd.func61, Tryd.ntmps61
    go_wp2_with (fail)
    go_ret
    exact ⟨by rw [hR.out]; rfl, Below.refl _ _⟩
  · have hp : (0 : Int) < s.size := by omega
    go_enter Tryd.func61, Tryd.ntmps61
    go_wp2_with (fail)
    go_loopw [4] (fun i wr => ∃ k : Nat, 1 ≤ k ∧ k ≤ s.size ∧ i = .int .i64 k ∧ Hid (∀ j, 1 ≤ j → j < k → tailEq (bts s) j = false) ∧ Below w.heap.size w wr) (fun i _ => s.size + 1 - (intOf i).toNat)
    case atStart => exact ⟨1, by omega, by omega, rfl, Lib.hid (fun j h1 h2 => by omega), Below.refl _ _⟩
    case round =>
      obtain ⟨k, hk1, hk2, rfl, hm, hbe⟩ := hrel
      obtain ⟨k2, hk2'⟩ : ∃ k2 : Nat, (2 : Int) * k = k2 := ⟨2 * k, by omega⟩
      by_cases hlt : 2 * k ≤ s.size
      · have hlti : (k2 : Int) ≤ s.size := by omega
        obtain ⟨q, hq⟩ : ∃ q : Nat, (s.size : Int) - 1 = q := ⟨s.size - 1, by omega⟩
        obtain ⟨p, hpp⟩ : ∃ p : Nat, (q : Int) - k = p := ⟨q - k, by omega⟩
        obtain ⟨u, hu⟩ : ∃ u : Nat, (s.size : Int) - k = u := ⟨s.size - k, by omega⟩
        obtain ⟨v, hv⟩ : ∃ v : Nat, (s.size : Int) - k2 = v := ⟨s.size - k2, by omega⟩
        have hql : q < s.size := by omega
        have hpl : p < s.size := by omega
        have hLen : (bts s).length = s.size := bts_len s
        by_cases hb : s[p] = s[q]
        · have hg : ((s[p].toNat : Int) == (s[q].toNat : Int)) = true := by rw [hb]; simp
          have hT := tail_go s (k := k) (u := u) (v := v) (by omega) (by omega)
          cases ht : tailEq (bts s) k with
          | true =>
            rw [ht] at hT
            have hR := Lib.hid (endsS_hit hk1 (by omega) ht hm.out)
            clear ht hb
            go_wp2_with (fail)
            go_quiet (fail)
            go_wp2_with (fail)
            go_ret
            exact ⟨by rw [hR.out]; rfl, below_drewN hbe _⟩
          | false =>
            rw [ht] at hT
            replace ht := Lib.hid ht
            clear hb
            go_wp2_with (fail)
            go_quiet (fail)
            go_wp2_with (fail)
            go_roundw
            case rel => exact ⟨k + 1, by omega, by omega, by go_num, Lib.hid (fun j h1 h2 => by
              by_cases e : j = k
              · rw [e]; exact ht.out
              · exact hm.out j h1 (by omega)), below_drewN hbe _⟩
            case measure => simp [intOf]; omega
        · have hg : ((s[p].toNat : Int) == (s[q].toNat : Int)) = false := by
            rw [beq_eq_false_iff_ne]
            intro e
            exact hb (UInt8.toNat_inj.1 (by omega))
          have ht := Lib.hid (tail_last hk1 hlt (by omega) (by omega) hql hpl hb)
          clear hb
          go_wp2_with (fail)
          go_quiet (fail)
          go_wp2_with (fail)
          go_roundw
          case rel => exact ⟨k + 1, by omega, by omega, by go_num, Lib.hid (fun j h1 h2 => by
            by_cases e : j = k
            · rw [e]; exact ht.out
            · exact hm.out j h1 (by omega)), below_drewN hbe _⟩
          case measure => simp [intOf]; omega
      · have hlti : ¬ (k2 : Int) ≤ s.size := by omega
        have hR := Lib.hid (endsS_none (l := bts s) (fun j h1 h2 => by
          rw [bts_len] at h2
          exact hm.out j h1 (by omega)))
        go_wp2_with (fail)
        go_ret
        exact ⟨by rw [hR.out]; rfl, hbe⟩
end Go.Proofs.YtkbfmogjhjdjmaaDoor.Cu
/- The program's repeat and clean, and the reference's. -/
namespace Go.Proofs.YtkbfmogjhjdjmaaDoor.Cu
open Go.RowKit
set_option maxRecDepth 100000 in
set_option maxHeartbeats 1000000 in
theorem repeat_any (s : ByteArray) (hs : s.size ≤ 1000000000) (w : World) :
    Calls Tryd.prog 66 #[.string s, .int .i64 0] w fun e w' => e = .returned (.tuple #[.int .i64 ((repS (bts s) 0).1 : Nat), .int .i64 ((repS (bts s) 0).2 : Nat)]) ∧ Below w.heap.size w w' := by
  have hLen : (bts s).length = s.size := bts_len s
  go_enter Tryd.func66, Tryd.ntmps66
  go_wp2_with (fail)
  go_loopw [6] (fun i wr => ∃ e : Nat, 1 ≤ e ∧ e ≤ s.size + 1 ∧ i = .int .i64 e ∧ Hid (∀ j, 1 ≤ j → j < e → endsS ((bts s).take j) = 0) ∧ Below w.heap.size w wr) (fun i _ => s.size + 2 - (intOf i).toNat)
  case atStart => exact ⟨1, by omega, by omega, rfl, Lib.hid (fun j h1 h2 => by omega), Below.refl _ _⟩
  case round =>
    obtain ⟨e, he1, he2, rfl, hm, hbe⟩ := hrel
    by_cases hlt : e ≤ s.size
    · have hlti : (e : Int) ≤ s.size := by omega
      have hsz := take_size s e hlt
      have hbt := Lib.hid (bts_take s e)
      obtain ⟨k, hk⟩ : ∃ k, endsS ((bts s).take e) = k := ⟨_, rfl⟩
      have hkH := Lib.hid hk
      rcases Nat.eq_zero_or_pos k with h0 | h0
      · subst h0
        clear hk
        go_wp2_with (first
          | (go_at_call 61; refine (ends_any (s.extract 0 e) (by rw [hsz]; omega) _).mono ?_; rintro e' w2 ⟨rfl, hb2⟩; rw [hbt.out, hkH.out]))
        go_roundw
        case rel => exact ⟨e + 1, by omega, by omega, by go_num, Lib.hid (fun j h1 h2 => by
          by_cases ej : j = e
          · rw [ej]; exact hkH.out
          · exact hm.out j h1 (by omega)), hbe.trans (hb2.mono hbe.size)⟩
        case measure => simp [intOf]; omega
      · have hR := Lib.hid (repS_hit he1 (by omega) (by rw [hk]; exact h0) hm.out)
        have h0' : (0 : Int) < k := by omega
        clear hk
        go_wp2_with (first
          | (go_at_call 61; refine (ends_any (s.extract 0 e) (by rw [hsz]; omega) _).mono ?_; rintro e' w2 ⟨rfl, hb2⟩; rw [hbt.out, hkH.out]))
        go_ret2
        exact ⟨by rw [hR.out, hkH.out]; rfl, hbe.trans (hb2.mono hbe.size)⟩
    · have hlti : ¬ (e : Int) ≤ s.size := by omega
      have hR := Lib.hid (repS_none (l := bts s) (fun j h1 h2 => hm.out j h1 (by omega)))
      go_wp2_with (fail)
      go_ret2
      exact ⟨by rw [hR.out]; rfl, hbe⟩
set_option maxHeartbeats 400000 in
theorem clean_any (s : ByteArray) (hs : s.size ≤ 1000000000) (w : World) :
    Calls Tryd.prog 60 #[.string s] w fun e w' => e = .returned (.bool (cleanS (bts s))) ∧ Below w.heap.size w w' := by
  obtain ⟨k, hk⟩ : ∃ k, (repS (bts s) 0).2 = k := ⟨_, rfl⟩
  have hR : cleanS (bts s) = (((k : Nat) : Int) == 0) := by
    unfold cleanS
    rw [hk, Bool.eq_iff_iff]
    simp
  rw [hR]
  have hkH := Lib.hid hk
  clear hk hR
  go_enter Tryd.func60, Tryd.ntmps60
  go_wp2_with (first
    | (go_at_call 66; refine (repeat_any s hs _).mono ?_; rintro e' w2 ⟨rfl, hb2⟩; rw [hkH.out]))
  go_ret
  exact ⟨rfl, hb2⟩
theorem repR_clean (l : Word) : ((repR l).2 == 0) = cleanS l := by
  unfold repR cleanS
  by_cases h : (repS l 0).2 = 0
  · rw [if_pos h, h]
  · rw [if_neg h]
end Go.Proofs.YtkbfmogjhjdjmaaDoor.Cu
/- The library's IndexRune in the four letters, at every rune; the program's highest. -/
namespace Go.Proofs.YtkbfmogjhjdjmaaDoor.Cu
open Go.RowKit
abbrev abcd : ByteArray := ⟨#[97, 98, 99, 100]⟩
theorem abcd_at {p : Nat} (h : p < abcd.size) : (abcd[p]'h).toNat < 128 := by
  have h4 : p < 4 := h
  match p, h4 with
  | 0, _ => show (97 : UInt8).toNat < 128; decide
  | 1, _ => show (98 : UInt8).toNat < 128; decide
  | 2, _ => show (99 : UInt8).toNat < 128; decide
  | 3, _ => show (100 : UInt8).toNat < 128; decide
theorem indexByte_no {l : Word} {c : UInt8} (h : ∀ b ∈ l, b ≠ c) : Lib.indexByte l c = -1 := by
  induction l with
  | nil => rfl
  | cons b l ih =>
    have h1 : (b == c) = false := by simpa using h b (by simp)
    rw [Lib.indexByte, h1, ih (fun x hx => h x (by simp [hx]))]
    rfl
theorem abcd_no {k : Nat} {c : Nat} (h1 : 128 ≤ c) (h2 : c < 256) : Lib.indexByte (abcd.extract k 4).data.toList (c : Nat).toUInt8 = -1 := by
  refine indexByte_no fun b hb => ?_
  have hb1 : b ∈ bts (abcd.extract k 4) := hb
  rw [bts_extract] at hb1
  have hb2 : b ∈ bts abcd := List.mem_of_mem_take (List.mem_of_mem_drop hb1)
  have hb3 : b.toNat < 128 := by
    simp [bts] at hb2
    rcases hb2 with rfl | rfl | rfl | rfl <;> decide
  intro e
  subst e
  rw [Nat.toUInt8, UInt8.toNat_ofNat'] at hb3
  omega
set_option maxRecDepth 100000 in
set_option maxHeartbeats 4000000 in
theorem indexRune_high (r : Nat) (h1 : 128 ≤ r) (h2 : r ≤ 2147483647) (w : World) :
    Calls Tryd.prog 65 #[.string abcd, .int .i32 r] w fun e w' => e = .returned (.int .i64 (-1)) ∧ Below w.heap.size w w' := by
  have h1i : ¬ (r : Int) < 128 := by omega
  have h0i : (0 : Int) ≤ r := by omega
  by_cases he : r = 65533
  · subst he
    go_enter Tryd.func65, Tryd.ntmps65
    go_wp2_with (fail)
    go_loopw [] (fun wr => ∃ pos : Nat, pos ≤ 4 ∧ wr.heap[w.heap.size]? = some (.stringIter abcd pos) ∧ Below w.heap.size w wr) (fun wr => 4 - wr.iterPos w.heap.size)
    case atStart => exact ⟨0, by omega, by first | exact World.iter_heap w abcd 0 | simp, (Below.refl _ _).alloc (Nat.le_refl _) _⟩
    case round =>
      obtain ⟨pos, hpos, hit, hbe⟩ := hrel
      by_cases hp : pos < abcd.size
      · have hnx : ∀ ty, (Instr.next (.pointer (some ⟨w.heap.size, 0, none⟩)) true ty).run Tryd.prog wr = _ := fun ty => Lib.run_next_ascii_at wr w.heap.size abcd pos ty hit hp (abcd_at hp)
        have hne : (((abcd[pos]'hp).toNat : Int) == 65533) = false := by
          have := abcd_at hp
          simp; omega
        have hit2 := Lib.iterAt_heap wr w.heap.size abcd pos (pos + 1) hit
        have hbe2 := Lib.below_iterAt hbe (k := w.heap.size) (Nat.le_refl _) abcd (pos + 1)
        have hp4 : pos < 4 := hp
        go_wp2_with (fail)
        go_roundw
        case rel => exact ⟨pos + 1, by omega, hit2, hbe2⟩
        case measure => simp only [World.iterPos, hit2, hit]; omega
      · have hnx : ∀ ty, (Instr.next (.pointer (some ⟨w.heap.size, 0, none⟩)) true ty).run Tryd.prog wr = _ := fun ty => Lib.run_next_end_at wr w.heap.size abcd pos ty hit hp
        go_wp2_with (fail)
        go_ret
        exact ⟨rfl, hbe⟩
  · have hei : ((r : Int) == 65533) = false := by simp; omega
    cases hv : Lib.validRune (r : Int) with
    | false =>
      go_enter Tryd.func65, Tryd.ntmps65
      go_wp2_with (first
        | (go_at_call 75; refine (Tryd.utf8_ValidRune _ _).mono ?_; rintro e w2 ⟨rfl, rfl⟩; rw [hv]))
      go_ret
      exact ⟨rfl, Below.refl _ _⟩
    | true =>
      have hvu : Utf8.valid (r : Int) = true := by
        simp only [Lib.validRune, decide_eq_true_eq] at hv
        simp [Utf8.valid]; omega
      obtain ⟨E, hE⟩ : ∃ E, Utf8.encode (r : Int) = E := ⟨_, rfl⟩
      obtain ⟨z1, z2, z3⟩ := encode_facts (r : Int) hvu (by omega)
      rw [hE] at z1 z2 z3
      obtain ⟨i, hi⟩ : ∃ i : Nat, (E.size : Int) - 1 = i := ⟨E.size - 1, by omega⟩
      have hiE : i < E.size := by omega
      have hi4 : i < 4 := by omega
      have hic : (i : Int) < 4 := by omega
      have hia : i < abcd.size := hi4
      have hl : 128 ≤ (E[i]'hiE).toNat := by
        have := z3 (by omega)
        have e : E.size - 1 = i := by omega
        simpa only [e] using this
      have ha := abcd_at hia
      have hne : (((abcd[i]'hia).toNat : Int) != ((E[i]'hiE).toNat : Int)) = true := by simp; omega
      have hl2 : (E[i]'hiE).toNat < 256 := UInt8.toNat_lt _
      have hno := Lib.hid (show Lib.indexByte (abcd.extract (i + 1) 4).data.toList (((E[i]'hiE).toNat : Nat) : Int).toNat.toUInt8 = -1 by rw [Int.toNat_natCast]; exact abcd_no hl hl2)
      obtain ⟨i1, hi1⟩ : ∃ i1 : Nat, (i : Int) + 1 = i1 := ⟨i + 1, by omega⟩
      have hi1e : i + 1 = i1 := by omega
      rw [hi1e] at hno
      have hi14 : i1 ≤ 4 := by omega
      have hw1 : Value.int .i64 (IntKind.i64.wrap (i1 : Int)) = Value.int .i64 (i1 : Int) := by rw [IntWalk.i64_in _ (by omega)]
      have hi14i : (i1 : Int) ≤ 4 := by omega
      have hsz4 : abcd.size = 4 := rfl
      clear z3 hi1e
      go_enter Tryd.func65, Tryd.ntmps65
      go_wp2_with (first
        | (go_at_call 75; refine (Tryd.utf8_ValidRune _ _).mono ?_; rintro e w2 ⟨rfl, rfl⟩; rw [hv]))
      go_step3
      go_wp2_with (fail)
      go_loopw [9] (fun v wr => v = .int .i64 i ∧ wr = w2) (fun _ _ => 0)
      case atStart => exact ⟨rfl, rfl⟩
      case round =>
        obtain ⟨rfl, rfl⟩ := hrel
        go_wp2_with (fail)
        try go_step3
        try go_wp2_with (fail)
        go_quiet (fail)
        have hbq := below_drewN (Below.refl wr.heap.size wr) nq
        go_wp2_with (fail)
        generalize wr.drewN nq = wq at hbq ⊢
        go_quiet (first | (go_at_call 74; exact Calls.quiet_of_same (Tryd.strings_IndexByte _ _ _)))
        rw [hno.out]
        go_wp2_with (fail)
        rw [Exit.noGoto_ret]
        simp +zetaDelta only [Exit.inBlock, Exit.then, Exit.noGoto]
        go_ret
        exact ⟨rfl, below_drewN hbq _⟩
theorem indexByte_letter {b : Nat} (h1 : 97 ≤ b) (h2 : b ≤ 100) : Lib.indexByte abcd.data.toList (b : Int).toNat.toUInt8 = (b : Int) - 97 := by
  obtain ⟨k, rfl⟩ : ∃ k, b = 97 + k := ⟨b - 97, by omega⟩
  have hk : k < 4 := by omega
  match k, hk with
  | 0, _ => rfl
  | 1, _ => rfl
  | 2, _ => rfl
  | 3, _ => rfl
theorem indexByte_none {b : Nat} (h0 : b < 256) (h : ¬ (97 ≤ b ∧ b ≤ 100)) : Lib.indexByte abcd.data.toList (b : Int).toNat.toUInt8 = -1 := by
  refine indexByte_no fun c hc => ?_
  have hc2 : c = 97 ∨ c = 98 ∨ c = 99 ∨ c = 100 := by simpa using hc
  intro e
  subst e
  have e2 : (b : Int).toNat.toUInt8.toNat = b := by rw [Int.toNat_natCast, Nat.toUInt8, UInt8.toNat_ofNat']; omega
  rcases hc2 with h1 | h1 | h1 | h1 <;> rw [h1] at e2 <;> simp at e2 <;> omega
set_option maxRecDepth 100000 in
set_option maxHeartbeats 4000000 in
theorem highest_any (s : ByteArray) (w : World) :
    Calls Tryd.prog 59 #[.string s] w fun e w' => e = .returned (.int .i64 (highS (bts s))) ∧ Below w.heap.size w w' := by
  go_enter Tryd.func59, Tryd.ntmps59
  go_wp2_with (fail)
  go_loopw [3] (fun o wr => ∃ pos : Nat, pos ≤ s.size ∧ o = .int .i64 (highN ((bts s).take pos) : Nat) ∧ Hid (lettersS ((bts s).take pos) 4 = true) ∧ wr.heap[w.heap.size]? = some (.stringIter s pos) ∧ Below w.heap.size w wr) (fun _ wr => s.size - wr.iterPos w.heap.size)
  case atStart => exact ⟨0, by omega, rfl, Lib.hid rfl, by first | exact World.iter_heap w s 0 | simp, (Below.refl _ _).alloc (Nat.le_refl _) _⟩
  case round =>
    obtain ⟨pos, hpos, rfl, hL, hit, hbe⟩ := hrel
    have hH := highN_le hL.out
    obtain ⟨o, ho⟩ : ∃ o, highN ((bts s).take pos) = o := ⟨_, rfl⟩
    rw [ho] at hH ⊢
    have hoH := Lib.hid ho
    clear ho
    by_cases hp : pos < s.size
    · obtain ⟨b, hb⟩ : ∃ b, s[pos]'hp = b := ⟨_, rfl⟩
      have hbt := bts_at s pos hp
      rw [hb] at hbt
      have hbt := Lib.hid hbt
      have hb256 : b.toNat < 256 := UInt8.toNat_lt _
      by_cases ha : b.toNat < 128
      · have hnx : ∀ ty, (Instr.next (.pointer (some ⟨w.heap.size, 0, none⟩)) true ty).run Tryd.prog wr = .ok (.tuple #[.bool true, .int .i64 pos, .int .i32 b.toNat]) (wr.iterAt w.heap.size s (pos + 1)) := fun ty => by
          rw [Lib.run_next_ascii_at wr w.heap.size s pos ty hit hp (by rw [hb]; exact ha), hb]
        have hit2 := Lib.iterAt_heap wr w.heap.size s pos (pos + 1) hit
        have hbe2 := Lib.below_iterAt hbe (k := w.heap.size) (Nat.le_refl _) s (pos + 1)
        generalize wr.iterAt w.heap.size s (pos + 1) = wn at hnx hit2 hbe2
        by_cases hl : 97 ≤ b.toNat ∧ b.toNat ≤ 100
        · have hib := Lib.hid (indexByte_letter hl.1 hl.2)
          have hk1 : (0 : Int) ≤ b.toNat - 97 := by omega
          have hL2 := Lib.hid (letters_take hL.out hbt.out hl.1 (by omega))
          have hN2 : highN ((bts s).take (pos + 1)) = max o (b.toNat - 96) := by rw [List.take_add_one, hbt.out, Option.toList_some, highN_snoc, hoH.out]
          obtain ⟨kk, hkk⟩ : ∃ kk : Nat, (b.toNat : Int) - 97 = kk := ⟨b.toNat - 97, by omega⟩
          have hkk4 : kk < 4 := by omega
          by_cases hmx : o < kk + 1
          · have hmi : (o : Int) < (kk : Int) + 1 := by omega
            have hN3 := Lib.hid (show highN ((bts s).take (pos + 1)) = kk + 1 by omega)
            clear hN2 hk1
            go_wp2_with (first
              | (go_at_call 65; refine (Tryd.strings_IndexRune_ascii _ _ _ (by omega) (by omega)).mono ?_; rintro e w2 ⟨rfl, rfl⟩; rw [hib.out, hkk]))
            go_roundw
            case rel => exact ⟨pos + 1, by omega, by rw [hN3.out]; first | go_num | (congr 1; omega), hL2, hit2, hbe2⟩
            case measure => simp only [World.iterPos, hit2, hit]; omega
          · have hmi : ¬ (o : Int) < (kk : Int) + 1 := by omega
            have hN3 := Lib.hid (show highN ((bts s).take (pos + 1)) = o by omega)
            clear hN2 hk1
            go_wp2_with (first
              | (go_at_call 65; refine (Tryd.strings_IndexRune_ascii _ _ _ (by omega) (by omega)).mono ?_; rintro e w2 ⟨rfl, rfl⟩; rw [hib.out, hkk]))
            go_roundw
            case rel => exact ⟨pos + 1, by omega, by rw [hN3.out]; first | rfl | (congr 1; omega), hL2, hit2, hbe2⟩
            case measure => simp only [World.iterPos, hit2, hit]; omega
        · have hib := Lib.hid (indexByte_none hb256 hl)
          have hR := Lib.hid (show highS (bts s) = -1 by rw [highS, if_neg (by rw [letters_no hbt.out (n := 4) (by omega)]; decide)])
          go_wp2_with (first
            | (go_at_call 65; refine (Tryd.strings_IndexRune_ascii _ _ _ (by omega) (by omega)).mono ?_; rintro e w2 ⟨rfl, rfl⟩; rw [hib.out]))
          go_ret
          exact ⟨by rw [hR.out]; rfl, hbe2⟩
      · have hr := decode_high s pos hp (by rw [hb]; omega)
        have hr2 := decode_le s pos
        have hnx : ∀ ty, (Instr.next (.pointer (some ⟨w.heap.size, 0, none⟩)) true ty).run Tryd.prog wr = _ := fun ty => Lib.run_next_any_at wr w.heap.size s pos ty hit hp
        have hbe2 := Lib.below_iterAt hbe (k := w.heap.size) (Nat.le_refl _) s (pos + (Utf8.decode s pos).2)
        have hR := Lib.hid (show highS (bts s) = -1 by rw [highS, if_neg (by rw [letters_no hbt.out (n := 4) (by omega)]; decide)])
        obtain ⟨r, hre⟩ : ∃ r, (Utf8.decode s pos).1 = r := ⟨_, rfl⟩
        obtain ⟨q, hqe⟩ : ∃ q, (Utf8.decode s pos).2 = q := ⟨_, rfl⟩
        rw [hre] at hr hr2 hnx
        rw [hqe] at hnx hbe2
        generalize wr.iterAt w.heap.size s (pos + q) = wn at hnx hbe2
        go_wp2_with (first
          | (go_at_call 65; refine (indexRune_high r hr.1 hr2 _).mono ?_; rintro e w2 ⟨rfl, hb2⟩))
        go_ret
        exact ⟨by rw [hR.out]; rfl, hbe2.trans (hb2.mono hbe2.size)⟩
    · have hnx : ∀ ty, (Instr.next (.pointer (some ⟨w.heap.size, 0, none⟩)) true ty).run Tryd.prog wr = _ := fun ty => Lib.run_next_end_at wr w.heap.size s pos ty hit hp
      have hft : (bts s).take pos = bts s := List.take_of_length_le (by rw [bts_len]; omega)
      rw [hft] at hL hoH
      have hR := Lib.hid (show highS (bts s) = (o : Int) by rw [highS, if_pos hL.out, hoH.out])
      clear hft
      go_wp2_with (fail)
      go_ret
      exact ⟨by rw [hR.out]; rfl, hbe⟩
end Go.Proofs.YtkbfmogjhjdjmaaDoor.Cu
/- Check, Repeat, Clear and begun; the reference's. -/
namespace Go.Proofs.YtkbfmogjhjdjmaaDoor.Cu
open Go.RowKit
def withinB (n lo hi : Int) : Bool := decide (lo ≤ n) && decide (n ≤ hi)
theorem within_b (n lo hi : Int) (w : World) : Calls Tryd.prog 51 #[.int .i64 n, .int .i64 lo, .int .i64 hi] w fun e w' => e = .returned (.bool (withinB n lo hi)) ∧ w' = w := within_any n lo hi w
set_option maxHeartbeats 400000 in
theorem Check_any (s : ByteArray) (w : World) : Calls Tryd.prog 58 #[.string s] w fun e w' => e = .returned (.int .i64 (chkW (bts s))) ∧ Below w.heap.size w w' := by
  have hl := bts_len s
  by_cases h : 600 < s.size
  · have hR := Lib.hid (show chkW (bts s) = 3 by rw [chkW, if_pos (by omega)])
    have hi : (600 : Int) < s.size := by omega
    go_enter Tryd.func58, Tryd.ntmps58
    go_wp2_with (fail)
    go_ret
    exact ⟨by rw [hR.out]; rfl, Below.refl _ _⟩
  · have hi : ¬ (600 : Int) < s.size := by omega
    cases hL : lettersS (bts s) 4 with
    | true =>
      have hR := Lib.hid (show chkW (bts s) = 0 by rw [chkW, if_neg (by omega), if_pos hL])
      have hH := Lib.hid (show highS (bts s) = (highN (bts s) : Nat) by rw [highS, if_pos hL])
      clear hL
      obtain ⟨k, hk⟩ : ∃ k, highN (bts s) = k := ⟨_, rfl⟩
      have hkH := Lib.hid hk
      have hk0 : ¬ (k : Int) < 0 := by omega
      clear hk
      go_enter Tryd.func58, Tryd.ntmps58
      go_wp2_with (first
        | (go_at_call 59; refine (highest_any s _).mono ?_; rintro e' w1 ⟨rfl, hb⟩; rw [hH.out, hkH.out]))
      go_ret
      exact ⟨by rw [hR.out]; rfl, hb⟩
    | false =>
      have hR := Lib.hid (show chkW (bts s) = 10 by rw [chkW, if_neg (by omega), if_neg (by rw [hL]; decide)])
      have hH := Lib.hid (show highS (bts s) = -1 by rw [highS, if_neg (by rw [hL]; decide)])
      clear hL
      go_enter Tryd.func58, Tryd.ntmps58
      go_wp2_with (first
        | (go_at_call 59; refine (highest_any s _).mono ?_; rintro e' w1 ⟨rfl, hb⟩; rw [hH.out]))
      go_ret
      exact ⟨by rw [hR.out]; rfl, hb⟩
end Go.Proofs.YtkbfmogjhjdjmaaDoor.Cu
/- begun, and the reference's given. -/
namespace Go.Proofs.YtkbfmogjhjdjmaaDoor.Cu
open Go.RowKit
theorem begE_bad {l : Word} {n : Int} (h : chkW l ≠ 0) : begE l n = chkW l := by rw [begE, if_pos h]
theorem begE_range {l : Word} {n : Int} (h : chkW l = 0) (h1 : ¬ (1 ≤ n ∧ n ≤ 4)) : begE l n = 1 := by rw [begE, if_neg (by simp [h]), if_pos h1]
theorem begE_none {l : Word} {n : Int} (h : chkW l = 0) (h1 : 1 ≤ n ∧ n ≤ 4) (h2 : lettersS l n = false) : begE l n = 2 := by rw [begE, if_neg (by simp [h]), if_neg (by simp [h1]), if_pos h2]
theorem begE_proof {l : Word} {n : Int} (h : chkW l = 0) (h1 : 1 ≤ n ∧ n ≤ 4) (h2 : lettersS l n = true) (h3 : cleanS l = false) : begE l n = 14 := by
  rw [begE, if_neg (by simp [h]), if_neg (by simp [h1]), if_neg (by rw [h2]; decide), if_pos h3]
theorem begE_ok {l : Word} {n : Int} (h : chkW l = 0) (h1 : 1 ≤ n ∧ n ≤ 4) (h2 : lettersS l n = true) (h3 : cleanS l = true) : begE l n = 0 := by
  rw [begE, if_neg (by simp [h]), if_neg (by simp [h1]), if_neg (by rw [h2]; decide), if_neg (by rw [h3]; decide)]
theorem begE_zero {l : Word} {n : Int} (h : begE l n = 0) : chkW l = 0 ∧ 1 ≤ n ∧ n ≤ 4 ∧ lettersS l n = true ∧ cleanS l = true := by
  by_cases hc : chkW l = 0
  · by_cases h1 : 1 ≤ n ∧ n ≤ 4
    · cases h2 : lettersS l n with
      | false => rw [begE_none hc h1 h2] at h; omega
      | true =>
        cases h3 : cleanS l with
        | false => rw [begE_proof hc h1 h2 h3] at h; omega
        | true => exact ⟨hc, h1.1, h1.2, rfl, rfl⟩
    · rw [begE_range hc h1] at h; omega
  · rw [begE_bad hc] at h; exact absurd h hc
set_option maxRecDepth 100000 in
set_option maxHeartbeats 2000000 in
theorem begun_any (s : ByteArray) (n : Int) (w : World) : Calls Tryd.prog 50 #[.string s, .int .i64 n] w fun e w' => e = .returned (.int .i64 (begE (bts s) n)) ∧ Below w.heap.size w w' := by
  by_cases hc : chkW (bts s) = 0
  · obtain ⟨hsz, hl4⟩ := chkW_zero hc
    rw [bts_len] at hsz
    have hcH := Lib.hid hc
    have hH := Lib.hid (show highS (bts s) = (highN (bts s) : Nat) by rw [highS, if_pos hl4])
    obtain ⟨k, hk⟩ : ∃ k, highN (bts s) = k := ⟨_, rfl⟩
    have hkH := Lib.hid hk
    by_cases h1 : 1 ≤ n ∧ n ≤ 4
    · have hw : withinB n 1 4 = true := by simp [withinB, h1]
      have ho := high_over hl4 h1.1 h1.2
      rw [hk] at ho
      cases h2 : lettersS (bts s) n with
      | false =>
        have hR := Lib.hid (begE_none hc h1 h2)
        rw [h2] at ho
        have hki : n < (k : Int) := by have := of_decide_eq_false ho.symm; omega
        clear hc hl4 hk ho h2
        go_enter Tryd.func50, Tryd.ntmps50
        go_wp2_with (first
          | (go_at_call 58; refine (Check_any s _).mono ?_; rintro e' w1 ⟨rfl, hb⟩; rw [hcH.out])
          | (go_at_call 51; refine (within_b _ _ _ _).mono ?_; rintro e' w2 ⟨rfl, rfl⟩; rw [hw])
          | (go_at_call 59; refine (highest_any s _).mono ?_; rintro e' w3 ⟨rfl, hb3⟩; rw [hH.out, hkH.out]))
        go_ret
        exact ⟨by rw [hR.out]; rfl, hb.trans (hb3.mono hb.size)⟩
      | true =>
        rw [h2] at ho
        have hki : ¬ n < (k : Int) := by have := of_decide_eq_true ho.symm; omega
        obtain ⟨q, hq⟩ : ∃ q, cleanS (bts s) = q := ⟨_, rfl⟩
        have hqH := Lib.hid hq
        have hR := Lib.hid (show begE (bts s) n = if q then 0 else 14 by
          cases q with
          | true => exact begE_ok hc h1 h2 hq
          | false => exact begE_proof hc h1 h2 hq)
        clear hc hl4 hk ho h2 hq
        cases q
        all_goals
          go_enter Tryd.func50, Tryd.ntmps50
          go_wp2_with (first
            | (go_at_call 58; refine (Check_any s _).mono ?_; rintro e' w1 ⟨rfl, hb⟩; rw [hcH.out])
            | (go_at_call 51; refine (within_b _ _ _ _).mono ?_; rintro e' w2 ⟨rfl, rfl⟩; rw [hw])
            | (go_at_call 59; refine (highest_any s _).mono ?_; rintro e' w3 ⟨rfl, hb3⟩; rw [hH.out, hkH.out])
            | (go_at_call 60; refine (clean_any s (by omega) _).mono ?_; rintro e' w4 ⟨rfl, hb4⟩; rw [hqH.out]))
          go_ret
          have hb34 := hb.trans (hb3.mono hb.size)
          exact ⟨by rw [hR.out]; rfl, hb34.trans (hb4.mono hb34.size)⟩
    · have hw : withinB n 1 4 = false := by simp [withinB]; omega
      have hR := Lib.hid (begE_range hc h1)
      clear hc hl4 hk
      go_enter Tryd.func50, Tryd.ntmps50
      go_wp2_with (first
        | (go_at_call 58; refine (Check_any s _).mono ?_; rintro e' w1 ⟨rfl, hb⟩; rw [hcH.out])
        | (go_at_call 51; refine (within_b _ _ _ _).mono ?_; rintro e' w2 ⟨rfl, rfl⟩; rw [hw]))
      go_ret
      exact ⟨by rw [hR.out]; rfl, hb⟩
  · have hcb : (chkW (bts s) != 0) = true := by simpa using hc
    have hR := Lib.hid (begE_bad (n := n) hc)
    clear hc
    go_enter Tryd.func50, Tryd.ntmps50
    go_wp2_with (first
      | (go_at_call 58; refine (Check_any s _).mono ?_; rintro e' w1 ⟨rfl, hb⟩))
    go_ret
    exact ⟨by rw [hR.out]; rfl, hb⟩
end Go.Proofs.YtkbfmogjhjdjmaaDoor.Cu
/- Slices of bytes that are appended to, level by level: what they read as, and what an append leaves alone. -/
namespace Go.Proofs.YtkbfmogjhjdjmaaDoor.Cu
open Go.RowKit
theorem infoU8 : (Tryd.prog.info? 5).map (fun i => (i.zero, i.size, i.bytes)) = some (some (.int .u8 0), 1, 1) := by kernel_rfl
/-- a block of bytes of which no cell is frozen -/
def BlkB (w : World) (g : Nat) (cs : Array Value) : Prop := ∃ fr : Nat × Nat, w.heap[g]? = some (.cells cs 5 fr) ∧ (fr = (0, 0) ∨ cs.size ≤ fr.1)
/-- all but some blocks stand -/
structure Fr (S : Nat → Prop) (w w' : World) : Prop where
  os : w'.os = w.os
  tape : w'.tape = w.tape
  output : w'.output = w.output
  size : w.heap.size ≤ w'.heap.size
  block : ∀ i, i < w.heap.size → ¬ S i → w'.heap[i]? = w.heap[i]?
section
variable {w w' w'' : World} {g : Nat} {cs : Array Value} {S S' : Nat → Prop}
theorem Fr.refl (S : Nat → Prop) (w : World) : Fr S w w := ⟨rfl, rfl, rfl, Nat.le_refl _, fun _ _ _ => rfl⟩
theorem Fr.of_below {B : Nat} (h : Below B w w') : Fr (fun i => B ≤ i) w w' := ⟨h.os, h.tape, h.output, h.size, fun i _ h2 => h.block i (by omega)⟩
theorem Fr.below {B : Nat} (h : Fr S w w') (hS : ∀ i, i < B → i < w.heap.size ∧ ¬ S i) : Below B w w' := ⟨h.os, h.tape, h.output, h.size, fun i hi => h.block i (hS i hi).1 (hS i hi).2⟩
theorem BlkB.lt (h : BlkB w g cs) : g < w.heap.size := by
  obtain ⟨fr, h, _⟩ := h
  rcases Nat.lt_or_ge g w.heap.size with hlt | hge
  · exact hlt
  · rw [Array.getElem?_eq_none hge] at h; cases h
theorem BlkB.cell (h : BlkB w g cs) (i : Nat) : w.cell? ⟨g, i, none⟩ = cs[i]? := by
  obtain ⟨fr, h, _⟩ := h
  exact cell_of_row w g i cs 5 fr h
theorem BlkB.frozen (h : BlkB w g cs) {i : Nat} (hi : i < cs.size) : w.frozen? ⟨g, i, none⟩ = false := by
  obtain ⟨⟨lo, hi'⟩, h, hf⟩ := h
  simp only [World.frozen?, h]
  rcases hf with hf | hf
  · simp only [Prod.mk.injEq] at hf
    obtain ⟨rfl, rfl⟩ := hf
    simp
  · have : cs.size ≤ lo := hf
    simp; omega
theorem BlkB.same (h : BlkB w g cs) (hb : w'.heap[g]? = w.heap[g]?) : BlkB w' g cs := by
  obtain ⟨fr, h1, h2⟩ := h
  exact ⟨fr, hb.trans h1, h2⟩
theorem BlkB.set_ (h : BlkB w g cs) (i : Nat) (u : Value) : BlkB (w.setCell ⟨g, i, none⟩ u) g (cs.setIfInBounds i u) := by
  obtain ⟨fr, h1, h2⟩ := h
  exact ⟨fr, by simp [World.setCell, Array.getElem?_modify, h1], by simpa using h2⟩
/-- the slice v reads as l; its array lies in block g -/
def Row8 (w : World) (v : Value) (og : Option Nat) (l : Word) : Prop :=
  ∃ A cap, v = .slice A l.length cap ∧ l.length ≤ cap ∧ cap ≤ maxLen ∧ (og = none → cap = 0 ∧ A = none) ∧
    ∀ g, og = some g → ∃ off cs, A = some ⟨g, off, none⟩ ∧ BlkB w g cs ∧ off + cap = cs.size ∧ ∀ (j : Nat) (b : UInt8), l[j]? = some b → cs[off + j]? = some (.int .u8 (b.toNat : Int))
variable {v : Value} {og : Option Nat} {l : Word}
theorem Row8.nil (w : World) : Row8 w (.slice none 0 0) none [] := ⟨none, 0, rfl, Nat.le_refl _, by decide, fun _ => ⟨rfl, rfl⟩, fun g h => by cases h⟩
theorem Row8.same (h : Row8 w v og l) (hb : ∀ g, og = some g → w'.heap[g]? = w.heap[g]?) : Row8 w' v og l := by
  obtain ⟨A, cap, h1, h2, h3, h4, h5⟩ := h
  refine ⟨A, cap, h1, h2, h3, h4, fun g hg => ?_⟩
  obtain ⟨off, cs, e1, e2, e3, e4⟩ := h5 g hg
  exact ⟨off, cs, e1, e2.same (hb g hg), e3, e4⟩
theorem Row8.lt (h : Row8 w v og l) {g : Nat} (hg : og = some g) : g < w.heap.size := by
  obtain ⟨A, cap, h1, h2, h3, h4, h5⟩ := h
  obtain ⟨off, cs, e1, e2, _⟩ := h5 g hg
  exact e2.lt
/-- string(v) -/
theorem Row8.str (h : Row8 w v og l) (src dst : TypeId) (hs : Tryd.prog.underlying src = some (.slice 5)) (hd : Tryd.prog.underlying dst = some .string) : (convert src dst v).run Tryd.prog w = .ok (.string ⟨l.toArray⟩) w := by
  obtain ⟨A, cap, rfl, h2, h3, h4, h5⟩ := h
  cases og with
  | none =>
    obtain ⟨rfl, rfl⟩ := h4 rfl
    have : l = [] := List.eq_nil_of_length_eq_zero (by omega)
    subst this
    exact run_convert_bytes_nil w src 5 hs Tryd.underlying5 0 0 dst hd
  | some g =>
    obtain ⟨off, cs, rfl, e2, e3, e4⟩ := h5 g rfl
    refine run_convert_bytes_back w src dst 5 ⟨g, off, none⟩ cap l hs Tryd.underlying5 hd fun j hj => ?_
    rw [Addr.add_lit, e2.cell]
    exact e4 j l[j] (List.getElem?_eq_getElem hj)
/-- the slice one shorter in the same array -/
theorem Row8.pre {A : Option Addr} {n cap : Nat} {y : UInt8} {g : Nat} (h : Row8 w (.slice A (n + 1) cap) (some g) (l ++ [y])) : Row8 w (.slice A l.length cap) (some g) l := by
  obtain ⟨A', cap', e1, h2, h3, h4, h5⟩ := h
  simp only [Value.slice.injEq] at e1
  obtain ⟨rfl, e2, rfl⟩ := e1
  simp only [List.length_append, List.length_cons, List.length_nil] at h2 e2
  refine ⟨_, _, rfl, by omega, h3, fun h => (by cases h), fun g' hg' => ?_⟩
  obtain ⟨off, cs, a1, a2, a3, a4⟩ := h5 g' hg'
  exact ⟨off, cs, a1, a2, a3, fun j b hj => a4 j b (by rw [List.getElem?_append_left (List.getElem?_eq_some_iff.1 hj).1]; exact hj)⟩
/-- append(v, y) -/
theorem wpList_push8 {ops : Array Oper} {rest : List Oper} {o : Oper} {a : Act} {Q : Exit → Act → World → Prop} (hgd : o.guard = none) (s x : Operand)
    (ho : o.op = .call { callee := .builtin .append, args := #[s, x], argTypes := #[104, 104] }) (hs : a.eval s = v) (hq : Row8 w v og l)
    (B c : Nat) (y : UInt8) (hx : a.eval x = .slice (some ⟨B, 0, none⟩) 1 c) (hB : w.cell? ⟨B, 0, none⟩ = some (.int .u8 (y.toNat : Int))) (hlen : l.length ≤ 1000000)
    (h : ∀ v' g' w', Row8 w' v' (some g') (l ++ [y]) → Row8 w' v og l → (og = some g' → ∀ w'', Row8 w'' v' (some g') (l ++ [y]) → Row8 w'' v og l) → (og = some g' ∨ w.heap.size ≤ g') → Fr (fun i => og = some i) w w' → wpList Tryd.prog ops Q rest (a.put o.dst v') w') : wpList Tryd.prog ops Q (o :: rest) a w := by
  obtain ⟨i0, hi0, hz0, hz1, hz2⟩ := info_parts infoU8
  have hq0 := hq
  obtain ⟨A, cap, rfl, h2, h3, h4, h5⟩ := hq
  have hnews : ∀ j u, [Value.int .u8 (y.toNat : Int)][j]? = some u → w.cell? ((⟨B, 0, none⟩ : Addr).add j) = some u := fun j u hj => by
    cases j with
    | zero => simp at hj; subst hj; exact hB
    | succ j => simp at hj
  have hone : ∀ u ∈ [Value.int .u8 (y.toNat : Int)], u.oneCell' = true := by simp [Value.oneCell']
  have hgrow : ∀ (v' : Value) (w' : World), w'.ownsRow w.heap.size 5 1 v' (l.length + 1) ((l.map fun b : UInt8 => Value.int .u8 (b.toNat : Int)) ++ [Value.int .u8 (y.toNat : Int)]) → w.grownBy w' none → wpList Tryd.prog ops Q rest (a.put o.dst v') w' := by
    intro v' w' hown hg
    rcases hown.2 with ⟨_, h0⟩ | ⟨g, cap', cur, rfl, hb, hcur, hle, hmax, hsz, htk⟩
    · omega
    · refine h _ g w' ⟨some ⟨g, 0, none⟩, cap', by simp, by simpa using hle, hmax, fun h => (by cases h), fun g' hg' => ?_⟩ (hq0.same fun g' hg' => hg.block g' (hq0.lt hg') (by simp)) (fun e => by have := hq0.lt e; omega) (Or.inr hb)
        ⟨hg.os, hg.tape, hg.output, hg.size, fun i hi _ => hg.block i hi (by simp)⟩
      obtain rfl : g = g' := by simpa using hg'
      refine ⟨0, cur, rfl, ⟨(0, 0), hcur, Or.inl rfl⟩, by omega, fun j u hj => ?_⟩
      have hjl : j < l.length + 1 := by
        have := (List.getElem?_eq_some_iff.1 hj).1
        simpa using this
      have e1 : ((l.map fun b : UInt8 => Value.int .u8 (b.toNat : Int)) ++ [Value.int .u8 (y.toNat : Int)]) = (l ++ [y]).map fun b : UInt8 => Value.int .u8 (b.toNat : Int) := by simp
      rw [e1] at htk
      have e2 := congrArg (fun l : List Value => l[j]?) htk
      simp only [List.getElem?_map, hj, Option.map_some, List.getElem?_take] at e2
      rw [if_pos (by omega)] at e2
      simpa using e2
  cases og with
  | none =>
    obtain ⟨rfl, rfl⟩ := h4 rfl
    have hl0 : l = [] := List.eq_nil_of_length_eq_zero (by omega)
    subst hl0
    refine wpList_append_grows w hgd s x 104 ho 5 i0 (.int .u8 0) 1 1 Tryd.underlying104 hi0 hz0 hz1 hz2 rfl (by decide) none 0 0 [] hs (fun _ => ⟨rfl, rfl⟩) rfl (fun _ _ j u hj => by simp at hj)
      ⟨B, 0, none⟩ 1 c [.int .u8 (y.toNat : Int)] hx rfl hnews hone (by omega) (by simp only [maxLen]; omega) (by omega) ?_
    intro v' w' r1 r2
    exact hgrow v' w' (by simpa using r1) r2
  | some g =>
    obtain ⟨off, cs, rfl, e2, e3, e4⟩ := h5 g rfl
    have holds : ∀ j u, (l.map fun b : UInt8 => Value.int .u8 (b.toNat : Int))[j]? = some u → w.cell? ⟨g, off + j, none⟩ = some u := fun j u hj => by
      rw [List.getElem?_map] at hj
      obtain ⟨b, hb1, rfl⟩ := Option.map_eq_some_iff.1 hj
      rw [e2.cell]; exact e4 j b hb1
    refine wpList_append_arg w hgd s x 104 ho 5 i0 (.int .u8 0) 1 1 Tryd.underlying104 hi0 hz0 hz1 hz2 rfl (by decide) g off l.length cap (l.map fun b : UInt8 => Value.int .u8 (b.toNat : Int)) hs (by simp) holds
      ⟨B, 0, none⟩ 1 c [.int .u8 (y.toNat : Int)] hx rfl hnews hone ?_ (by simp only [maxLen]; omega) (by omega) ?_ (fun _ => hgrow)
    · intro hroom j hj
      obtain rfl : j = 0 := by simpa using hj
      simp only [Nat.mul_one, Nat.add_zero]
      refine ⟨?_, e2.frozen (by omega)⟩
      rw [e2.cell, Array.getElem?_eq_getElem (by omega)]; rfl
    · intro hroom
      have e0 : w.setCells g (off + l.length * 1) [.int .u8 (y.toNat : Int)] = w.setCell ⟨g, off + l.length, none⟩ (.int .u8 (y.toNat : Int)) := by simp [World.setCells]
      rw [e0]
      have hbs := e2.set_ (off + l.length) (.int .u8 (y.toNat : Int))
      refine h _ g _ ⟨some ⟨g, off, none⟩, cap, by simp, by simpa using hroom, h3, fun h => (by cases h), fun g' hg' => ?_⟩ ⟨_, cap, rfl, h2, h3, fun h => (by cases h), fun g' hg' => ?_⟩ (fun _ w'' hw => hw.pre) (Or.inl rfl)
        ⟨rfl, rfl, rfl, by simp, fun i hi hne => Below.heap_setCell w _ _ i (fun e => hne (by rw [e]))⟩
      · obtain rfl : g = g' := by simpa using hg'
        refine ⟨off, _, rfl, hbs, by simpa using e3, fun j u hj => ?_⟩
        rw [Array.getElem?_setIfInBounds]
        by_cases hjl : j = l.length
        · subst hjl
          rw [if_pos rfl, if_pos (by omega)]
          simp at hj; subst hj; rfl
        · have : j < l.length := by
            have := (List.getElem?_eq_some_iff.1 hj).1
            simp at this; omega
          rw [if_neg (by omega), e4 j u (by rw [← hj, List.getElem?_append_left this])]
      · obtain rfl : g = g' := by simpa using hg'
        refine ⟨off, _, rfl, hbs, by simpa using e3, fun j u hj => ?_⟩
        have : j < l.length := (List.getElem?_eq_some_iff.1 hj).1
        rw [Array.getElem?_setIfInBounds, if_neg (by omega), e4 j u hj]
end
end Go.Proofs.YtkbfmogjhjdjmaaDoor.Cu
/- A builder that is written byte by byte, with all that its writing leaves alone. -/
namespace Go.Proofs.YtkbfmogjhjdjmaaDoor.Cu
open Go.RowKit
theorem own_fr {w w' : World} {S : Nat → Prop} {base : Nat} {v : Value} {n : Nat} {xs : List Value} (h : w.ownsRow base 5 1 v n xs) (hF : Fr S w w') (hS : ∀ g, v.ownBlock = some g → ¬ S g) : w'.ownsRow base 5 1 v n xs := by
  refine ⟨h.1, ?_⟩
  rcases h.2 with h0 | ⟨g, cap, cur, rfl, hb2, hg, r⟩
  · exact .inl h0
  · exact .inr ⟨g, cap, cur, rfl, hb2, (hF.block g (World.ownsRow.lt h g rfl).2 (hS g rfl)).trans hg, r⟩
end Go.Proofs.YtkbfmogjhjdjmaaDoor.Cu
/- walk, at every function value that obeys some rules. -/
namespace Go.Proofs.YtkbfmogjhjdjmaaDoor.Cu
open Go.RowKit
theorem Fr.more {S T : Nat → Prop} {w w1 w2 : World} (h : Fr S w w1) (h2 : Fr T w1 w2) (hT : ∀ i, i < w.heap.size → T i → S i) : Fr S w w2 :=
  ⟨h2.os.trans h.os, h2.tape.trans h.tape, h2.output.trans h.output, Nat.le_trans h.size h2.size, fun i hi hS => (h2.block i (Nat.lt_of_lt_of_le hi h.size) fun ht => hS (hT i hi ht)).trans (h.block i hi hS)⟩
theorem Fr.same {S : Nat → Prop} {w w1 : World} (h : Fr S w w1) {v : Value} {og : Option Nat} {l : Word} (hr : Row8 w v og l) (hS : ∀ g, og = some g → ¬ S g) : Row8 w1 v og l := hr.same fun g hg => h.block g (hr.lt hg) (hS g hg)
/-- up to the test of a round -/
theorem round_near {O : Nat → Prop} {w wr wn w2 w3 : World} {og : Option Nat} {x : Word} {v : Value} {o : Obj} (hr : Row8 w v og x) (hsz : w.heap.size < wr.heap.size) (hF1 : Fr (fun i => O i ∨ og = some i) w wr) (hn : Fr (fun i => i = w.heap.size) wr wn)
    (hF2 : Fr (fun i => og = some i) (wn.alloc o) w2) (hrx : Row8 w2 v og x) (hb3 : Below w2.heap.size w2 w3) :
    Fr (fun i => O i ∨ og = some i) w w3 ∧ w3.heap[w.heap.size]? = wn.heap[w.heap.size]? ∧ Row8 w3 v og x ∧ wn.heap.size < w3.heap.size ∧ ∀ i, i < wn.heap.size → og ≠ some i → w3.heap[i]? = wn.heap[i]? := by
  have ha := (Below.refl wn.heap.size wn).alloc (Nat.le_refl _) o
  have has : (wn.alloc o).heap.size = wn.heap.size + 1 := by simp
  have h23 : Fr (fun i => og = some i) wn w3 := ⟨(hb3.os.trans hF2.os).trans ha.os, (hb3.tape.trans hF2.tape).trans ha.tape, (hb3.output.trans hF2.output).trans ha.output,
    Nat.le_trans (Nat.le_trans ha.size hF2.size) hb3.size, fun i hi hS => ((hb3.block i (by have := hF2.size; omega)).trans (hF2.block i (by omega) hS)).trans (ha.block i hi)⟩
  have hnw : ∀ g, og = some g → g < w.heap.size := fun g hg => hr.lt hg
  refine ⟨(hF1.more hn (fun i hi e => absurd e (by omega))).more h23 (fun i _ e => Or.inr e), h23.block _ (by have := hn.size; omega) (fun e => by have := hnw _ e; omega), hrx.same fun g hg => hb3.block g (hrx.lt hg), by have := hF2.size; have := hb3.size; omega, fun i hi hS => h23.block i hi hS⟩
/-- behind the call of a round -/
theorem round_far {O O1 : Nat → Prop} {w w3 w4 : World} {og : Option Nat} {x : Word} {v v2 : Value} {g2 N : Nat} {b : UInt8} (hr : Row8 w v og x) (f1 : Fr (fun i => O i ∨ og = some i) w w3) (f3 : Row8 w3 v og x) (hsz : w.heap.size < w3.heap.size)
    (hpre : og = some g2 → ∀ w'', Row8 w'' v2 (some g2) (x ++ [b]) → Row8 w'' v og x) (hg2 : og = some g2 ∨ N ≤ g2) (hN : w.heap.size < N) (hlt0 : ∀ i, O i → i < w.heap.size) (ho : ∀ g, og = some g → ¬ O g) (hO1 : ∀ i, O1 i → O i ∨ w.heap.size < i)
    (hF4 : Fr (fun i => O1 i ∨ some g2 = some i) w3 w4) (hr4 : Row8 w4 v2 (some g2) (x ++ [b])) : Fr (fun i => O i ∨ og = some i) w w4 ∧ w4.heap[w.heap.size]? = w3.heap[w.heap.size]? ∧ Row8 w4 v og x := by
  have hnw : ∀ g, og = some g → g < w.heap.size := fun g hg => hr.lt hg
  refine ⟨f1.more hF4 fun i hi h => ?_, hF4.block _ hsz fun h => ?_, ?_⟩
  · rcases h with h | h
    · rcases hO1 i h with h | h
      · exact Or.inl h
      · omega
    · have hgi : g2 = i := by simpa using h
      rcases hg2 with h2 | h2
      · exact Or.inr (by rw [h2, hgi])
      · omega
  · rcases h with h | h
    · rcases hO1 _ h with h | h
      · have := hlt0 _ h; omega
      · omega
    · have hgi : g2 = w.heap.size := by simpa using h
      rcases hg2 with h2 | h2
      · have := hnw _ h2; omega
      · omega
  · rcases hg2 with h2 | h2
    · exact hpre h2 w4 hr4
    · refine hF4.same f3 fun g hg h => ?_
      have := hnw g hg
      rcases h with h | h
      · rcases hO1 _ h with h | h
        · exact ho g hg h
        · omega
      · have hgi : g2 = g := by simpa using h
        omega
section
variable {σ : Type}
/-- through the letters: k of them, from the letter c on -/
def runL (f : σ → Word → Bool × σ) (x : Word) : Nat → Nat → σ → Bool × σ
  | 0, _, s => (true, s)
  | k + 1, c, s => if endsS (x ++ [c.toUInt8]) = 0 then (if (f s (x ++ [c.toUInt8])).1 then runL f x k (c + 1) (f s (x ++ [c.toUInt8])).2 else f s (x ++ [c.toUInt8])) else runL f x k (c + 1) s
/-- what walk reckons: m letters more -/
def runW (step : σ → Word → Bool × σ) (n : Nat) : Nat → σ → Word → Bool × σ
  | 0, s, x => step s x
  | m + 1, s, x => runL (runW step n m) x n 97 s
/-- the rules of a function value: what it holds (I, in the blocks O), and what a call does -/
structure Each (k : FuncId) (cap : Array Value) (n L C : Nat) (step : σ → Word → Bool × σ) where
  I : (Nat → Prop) → σ → World → Prop
  cost : σ → Nat
  cost_step : ∀ s x, cost (step s x).2 ≤ cost s + 1
  enters : ∀ args w, (callFunc k args).run Tryd.prog w = .ok (.enter k args) w
  lt : ∀ O s w i, I O s w → O i → i < w.heap.size
  keep : ∀ O s w w', I O s w → w.heap.size ≤ w'.heap.size → (∀ i, O i → w'.heap[i]? = w.heap[i]?) → I O s w'
  call : ∀ O s w v og x, I O s w → Row8 w v og x → x.length = L → lettersS x n = true → (∀ g, og = some g → ¬ O g) → cost s < C → Calls Tryd.prog k (#[v] ++ cap) w fun e w' => ∃ O', e = .returned (.bool (step s x).1) ∧ I O' (step s x).2 w' ∧ Fr O w w' ∧ ∀ i, O' i → O i ∨ w.heap.size ≤ i
theorem letters_snoc {x : Word} {n : Nat} {c : UInt8} (h : lettersS x n = true) (h1 : 97 ≤ c.toNat) (h2 : c.toNat ≤ 96 + n) : lettersS (x ++ [c]) n = true := by
  rw [lettersS, List.all_append, Bool.and_eq_true]
  refine ⟨h, ?_⟩
  simp
  omega
theorem cost_runL {f : σ → Word → Bool × σ} {cost : σ → Nat} {K : Nat} (hf : ∀ s x, cost (f s x).2 ≤ cost s + K) (x : Word) (k : Nat) : ∀ c s, cost (runL f x k c s).2 ≤ cost s + k * K := by
  induction k with
  | zero => intro c s; simp [runL]
  | succ k ih =>
    intro c s
    rw [Nat.succ_mul]
    simp only [runL]
    split
    · split
      · have h1 := hf s (x ++ [c.toUInt8])
        have h2 := ih (c + 1) (f s (x ++ [c.toUInt8])).2
        omega
      · have h1 := hf s (x ++ [c.toUInt8])
        omega
    · have h2 := ih (c + 1) s
      omega
theorem cost_runW {step : σ → Word → Bool × σ} {n : Nat} {cost : σ → Nat} (hn : n ≤ 4) (hf : ∀ s x, cost (step s x).2 ≤ cost s + 1) (m : Nat) : ∀ s x, cost (runW step n m s x).2 ≤ cost s + 4 ^ m := by
  induction m with
  | zero => intro s x; simpa [runW] using hf s x
  | succ m ih =>
    intro s x
    have h1 := cost_runL (K := 4 ^ m) ih x n 97 s
    have h2 : n * 4 ^ m ≤ 4 * 4 ^ m := Nat.mul_le_mul_right _ hn
    simp only [runW]
    rw [Nat.pow_succ]
    omega
variable {k : FuncId} {cap : Array Value} {n L C : Nat} {step : σ → Word → Bool × σ}
set_option maxRecDepth 100000 in
set_option maxHeartbeats 4000000 in
theorem walk_zero (E : Each k cap n L C step) (O : Nat → Prop) (s : σ) (w : World) (v : Value) (og : Option Nat) (x : Word) (hL : x.length = L) (hl : lettersS x n = true) (hI : E.I O s w) (hr : Row8 w v og x) (ho : ∀ g, og = some g → ¬ O g) (hC : E.cost s < C) :
    Calls Tryd.prog 52 #[v, .int .i64 n, .int .i64 0, .func (.func k) #[] cap] w fun e w' => ∃ O', e = .returned (.bool (step s x).1) ∧ E.I O' (step s x).2 w' ∧ Fr O w w' ∧ ∀ i, O' i → O i ∨ w.heap.size ≤ i := by
  have eg := E.enters
  go_enter Tryd.func52, Tryd.ntmps52
  go_wp2_with (first
    | (with_reducible show Calls _ _ _ _ _; refine (E.call O s _ v og x hI hr hL hl ho hC).mono ?_; rintro e w1 ⟨O1, rfl, hI1, hF1, hO1⟩))
  go_ret
  exact ⟨O1, rfl, hI1, hF1, hO1⟩
/-- the letters that are gone through -/
theorem abc_at {n p : Nat} (hn : n ≤ 4) (hp : p < n) : ∃ h : p < (abcd.extract 0 n).size, (abcd.extract 0 n)[p]'h = (97 + p).toUInt8 := by
  have hsz : (abcd.extract 0 n).size = n := by rw [ByteArray.size_extract]; show min n 4 - 0 = n; omega
  refine ⟨by omega, ?_⟩
  rw [ByteArray.getElem_extract]
  have h4 : p < 4 := by omega
  match p, h4 with
  | 0, _ => rfl
  | 1, _ => rfl
  | 2, _ => rfl
  | 3, _ => rfl
set_option maxRecDepth 100000 in
set_option maxHeartbeats 4000000 in
theorem walk_succ (E : Each k cap n L C step) (m M K : Nat) (hM : m + 1 = M) (hn : n ≤ 4) (hK : ∀ s x, E.cost (runW step n m s x).2 ≤ E.cost s + K)
    (ih : ∀ (O : Nat → Prop) (s : σ) (w : World) (v : Value) (og : Option Nat) (x : Word), E.cost s + K ≤ C → x.length + m = L → lettersS x n = true → E.I O s w → Row8 w v og x → (∀ g, og = some g → ¬ O g) →
      Calls Tryd.prog 52 #[v, .int .i64 n, .int .i64 m, .func (.func k) #[] cap] w fun e w' => ∃ O', e = .returned (.bool (runW step n m s x).1) ∧ E.I O' (runW step n m s x).2 w' ∧ Row8 w' v og x ∧ Fr (fun i => O i ∨ og = some i) w w' ∧ ∀ i, O' i → O i ∨ w.heap.size ≤ i)
    (O : Nat → Prop) (s : σ) (w : World) (v : Value) (og : Option Nat) (x : Word) (hC : E.cost s + n * K ≤ C) (hL : x.length + M = L) (hL7 : L ≤ 700) (hl : lettersS x n = true) (hI : E.I O s w) (hr : Row8 w v og x) (ho : ∀ g, og = some g → ¬ O g) :
    Calls Tryd.prog 52 #[v, .int .i64 n, .int .i64 M, .func (.func k) #[] cap] w fun e w' => ∃ O', e = .returned (.bool (runW step n M s x).1) ∧ E.I O' (runW step n M s x).2 w' ∧ Row8 w' v og x ∧ Fr (fun i => O i ∨ og = some i) w w' ∧ ∀ i, O' i → O i ∨ w.heap.size ≤ i := by
  have hM0 : ((M : Int) == 0) = false := by simp; omega
  have hM1 : (M : Int) - 1 = m := by omega
  have hn4 : (n : Int) ≤ 4 := by omega
  have hM7 : M ≤ 700 := by omega
  obtain ⟨R, hR⟩ : ∃ R, runW step n M s x = R := ⟨_, rfl⟩
  rw [hR]
  have hRH := Lib.hid (show runL (runW step n m) x n 97 s = R by rw [← hR, ← hM]; rfl)
  clear hR
  have hlt0 : ∀ i, O i → i < w.heap.size := fun i => E.lt O s w i hI
  clear hM
  go_enter Tryd.func52, Tryd.ntmps52
  go_wp2_with (fail)
  go_loopw [] (fun wr => ∃ pos O1 s1, pos ≤ n ∧ E.I O1 s1 wr ∧ (∀ i, O1 i → O i ∨ w.heap.size < i) ∧ Row8 wr v og x ∧ wr.heap[w.heap.size]? = some (.stringIter (abcd.extract 0 n) pos) ∧ Fr (fun i => O i ∨ og = some i) w wr ∧ Hid (runL (runW step n m) x (n - pos) (97 + pos) s1 = R) ∧ Hid (E.cost s1 + (n - pos) * K ≤ C)) (fun wr => n - wr.iterPos w.heap.size)
  case atStart =>
    have hb0 := (Below.refl w.heap.size w).alloc (Nat.le_refl _) (.stringIter (abcd.extract 0 n) 0)
    refine ⟨0, O, s, by omega, E.keep O s w _ hI hb0.size (fun i hi => hb0.block i (hlt0 i hi)), fun i hi => Or.inl hi, hr.same (fun g hg => hb0.block g (hr.lt hg)), by first | exact World.iter_heap w _ 0 | simp, ⟨hb0.os, hb0.tape, hb0.output, hb0.size, fun i hi _ => hb0.block i hi⟩, hRH, Lib.hid hC⟩
  case round =>
    obtain ⟨pos, O1, s1, hpos, hI1, hO1, hr1, hit, hF1, hH, hcost⟩ := hrel
    have hitsz : w.heap.size < wr.heap.size := by
      rcases Nat.lt_or_ge w.heap.size wr.heap.size with h | h
      · exact h
      · rw [Array.getElem?_eq_none h] at hit; cases hit
    by_cases hp : pos < n
    · have hcs := Lib.hid (show E.cost s1 + K ≤ C ∧ ∀ y, E.cost y ≤ E.cost s1 + K → E.cost y + (n - (pos + 1)) * K ≤ C from by
        have h1 : (n - pos) * K = (n - (pos + 1)) * K + K := by rw [show n - pos = (n - (pos + 1)) + 1 by omega, Nat.succ_mul]
        have h2 := hcost.out
        exact ⟨by omega, fun y hy => by omega⟩)
      obtain ⟨hps, hpe⟩ := abc_at hn hp
      obtain ⟨b, hb⟩ : ∃ b, (abcd.extract 0 n)[pos]'hps = b := ⟨_, rfl⟩
      rw [hb] at hpe
      have hbn := Lib.hid (show b.toNat = 97 + pos by rw [hpe, Nat.toUInt8, UInt8.toNat_ofNat']; omega)
      have hb97 : 97 ≤ b.toNat := by have := hbn.out; omega
      have hb96 : b.toNat ≤ 96 + n := by have := hbn.out; omega
      have hb128 : b.toNat < 128 := by omega
      have hnx : ∀ ty, (Instr.next (.pointer (some ⟨w.heap.size, 0, none⟩)) true ty).run Tryd.prog wr = .ok (.tuple #[.bool true, .int .i64 pos, .int .i32 b.toNat]) (wr.iterAt w.heap.size (abcd.extract 0 n) (pos + 1)) := fun ty => by
        rw [Lib.run_next_ascii_at wr w.heap.size _ pos ty hit hps (by rw [hb]; exact hb128), hb]
      clear hb
      replace hpe := Lib.hid hpe
      have hit2 := Lib.iterAt_heap wr w.heap.size (abcd.extract 0 n) pos (pos + 1) hit
      have hfn : Fr (fun i => i = w.heap.size) wr (wr.iterAt w.heap.size (abcd.extract 0 n) (pos + 1)) := ⟨rfl, rfl, rfl, by rw [Lib.iterAt_size]; exact Nat.le_refl _, fun i _ hi => Lib.iterAt_other wr w.heap.size i _ (pos + 1) hi⟩
      generalize wr.iterAt w.heap.size (abcd.extract 0 n) (pos + 1) = wn at hnx hit2 hfn
      have hgw : ∀ g, og = some g → g < w.heap.size := fun g hg => hr.lt hg
      have hO1i : ¬ O1 w.heap.size := fun h => by
        rcases hO1 _ h with h | h
        · have := hlt0 _ h; omega
        · omega
      have hIn := E.keep O1 s1 wr wn hI1 hfn.size (fun i hi => hfn.block i (E.lt _ _ _ _ hI1 hi) (fun e => hO1i (e ▸ hi)))
      have hrn := hfn.same hr1 (fun g hg e => by have := hgw g hg; omega)
      have hra := hrn.same (w' := wn.alloc (.cells #[.int .u8 (b.toNat : Int)] 5)) (fun g hg => ((Below.refl wn.heap.size wn).alloc (Nat.le_refl _) _).block g (hrn.lt hg))
      have hcell : (wn.alloc (.cells #[.int .u8 (b.toNat : Int)] 5)).cell? ⟨wn.heap.size, 0, none⟩ = some (.int .u8 (b.toNat : Int)) := cell_of_row _ wn.heap.size 0 _ 5 (0, 0) (Blk.new wn _ _)
      have hlen : x.length ≤ 1000000 := by omega
      have hos : (bts ⟨(x ++ [b]).toArray⟩) = x ++ [b] := rfl
      have hO1o : ∀ g, og = some g → ¬ O1 g := fun g hg h => by
        rcases hO1 _ h with h | h
        · exact ho g hg h
        · have := hgw g hg; omega
      by_cases he : endsS (x ++ [b]) = 0
      · obtain ⟨⟨q, s4⟩, hT⟩ : ∃ T, runW step n m s1 (x ++ [b]) = T := ⟨_, rfl⟩
        have hTH := Lib.hid hT
        have hc4 := Lib.hid (show E.cost s4 ≤ E.cost s1 + K by have h := hK s1 (x ++ [b]); rw [hT] at h; exact h)
        have heH := Lib.hid he
        have hRr : runL (runW step n m) x n 97 s = R ∧ (if q then runL (runW step n m) x (n - (pos + 1)) (97 + (pos + 1)) s4 else (q, s4)) = R := ⟨hRH.out, by
          rw [← hH.out, show n - pos = (n - (pos + 1)) + 1 by omega, runL, ← hpe.out, hT, if_pos he]; rfl⟩
        have hL1 : (x ++ [b]).length + m = L := by simp; omega
        have hl1 := letters_snoc hl hb97 hb96
        clear hT he
        cases q with
        | true =>
          have hRn := Lib.hid hRr.2
          clear hRr
          go_wp2_with (first
            | (at_builtin; refine wpList_push8 rfl _ _ rfl rfl hra _ _ b rfl hcell hlen ?_; intro v2 g2 w2 hr2 hrx hpre hg2 hF2; have hstr := hr2.str 104 9 rfl rfl)
            | (go_at_call 61; refine (ends_any _ (by show (x ++ [b]).length ≤ _; simp; omega) _).mono ?_; rintro e w3 ⟨rfl, hb3⟩; rw [hos, heH.out]; obtain ⟨f1, f2, f3, f4, f5⟩ := round_near hr hitsz hF1 hfn hF2 hrx hb3)
            | (go_at_call 52
               have hI3 := E.keep O1 s1 wn w3 hIn (Nat.le_of_lt f4) (fun i hi => f5 i (E.lt _ _ _ _ hIn hi) (fun e => hO1o i e hi))
               have hr3 := hr2.same (w' := w3) (fun g hg => hb3.block g (hr2.lt hg))
               have hg3 : ∀ g, some g2 = some g → ¬ O1 g := fun g hg h => by
                 have hgg : g2 = g := by simpa using hg
                 rcases hg2 with h2 | h2
                 · exact hO1o g (by rw [h2, hgg]) h
                 · have h3 := E.lt _ _ _ _ hIn h
                   simp at h2; omega
               refine (ih O1 s1 w3 v2 (some g2) (x ++ [b]) hcs.out.1 hL1 hl1 hI3 hr3 hg3).mono ?_
               rintro e w4 ⟨O4, rfl, hI4, hr4, hF4, hO4⟩
               rw [hTH.out] at hI4 ⊢))
          have hN : w.heap.size < (wn.alloc (.cells #[.int .u8 (b.toNat : Int)] 5)).heap.size := by have := hfn.size; simp; omega
          obtain ⟨q1, q2, q3⟩ := round_far hr f1 f3 (by have := hfn.size; omega) hpre hg2 hN hlt0 ho hO1 hF4 hr4
          have hit3 := q2.trans (f2.trans hit2)
          exact ⟨⟨pos + 1, O4, s4, by omega, hI4, fun i hi => (hO4 i hi).elim (hO1 i) (fun h => Or.inr (by have := hfn.size; omega)), q3, hit3, q1, hRn, Lib.hid (hcs.out.2 s4 hc4.out)⟩, by simp only [World.iterPos, hit3, hit]; omega⟩
        | false =>
          have hRn := Lib.hid (show (false, s4) = R from hRr.2)
          clear hRr
          go_wp2_with (first
            | (at_builtin; refine wpList_push8 rfl _ _ rfl rfl hra _ _ b rfl hcell hlen ?_; intro v2 g2 w2 hr2 hrx hpre hg2 hF2; have hstr := hr2.str 104 9 rfl rfl)
            | (go_at_call 61; refine (ends_any _ (by show (x ++ [b]).length ≤ _; simp; omega) _).mono ?_; rintro e w3 ⟨rfl, hb3⟩; rw [hos, heH.out]; obtain ⟨f1, f2, f3, f4, f5⟩ := round_near hr hitsz hF1 hfn hF2 hrx hb3)
            | (go_at_call 52
               have hI3 := E.keep O1 s1 wn w3 hIn (Nat.le_of_lt f4) (fun i hi => f5 i (E.lt _ _ _ _ hIn hi) (fun e => hO1o i e hi))
               have hr3 := hr2.same (w' := w3) (fun g hg => hb3.block g (hr2.lt hg))
               have hg3 : ∀ g, some g2 = some g → ¬ O1 g := fun g hg h => by
                 have hgg : g2 = g := by simpa using hg
                 rcases hg2 with h2 | h2
                 · exact hO1o g (by rw [h2, hgg]) h
                 · have h3 := E.lt _ _ _ _ hIn h
                   simp at h2; omega
               refine (ih O1 s1 w3 v2 (some g2) (x ++ [b]) hcs.out.1 hL1 hl1 hI3 hr3 hg3).mono ?_
               rintro e w4 ⟨O4, rfl, hI4, hr4, hF4, hO4⟩
               rw [hTH.out] at hI4 ⊢))
          go_ret
          have hN : w.heap.size < (wn.alloc (.cells #[.int .u8 (b.toNat : Int)] 5)).heap.size := by have := hfn.size; simp; omega
          obtain ⟨q1, q2, q3⟩ := round_far hr f1 f3 (by have := hfn.size; omega) hpre hg2 hN hlt0 ho hO1 hF4 hr4
          exact ⟨O4, by rw [← hRn.out]; rfl, by rw [← hRn.out]; exact hI4, q3, q1, fun i hi => (hO4 i hi).elim (fun h => (hO1 i h).imp id Nat.le_of_lt) (fun h => Or.inr (by have := hfn.size; omega))⟩
      · obtain ⟨z, hz⟩ : ∃ z, endsS (x ++ [b]) = z := ⟨_, rfl⟩
        have hz0 : ((z : Int) == 0) = false := by simp; omega
        have hzH := Lib.hid hz
        have hRn := Lib.hid (show runL (runW step n m) x (n - (pos + 1)) (97 + (pos + 1)) s1 = R by
          rw [← hH.out, show n - pos = (n - (pos + 1)) + 1 by omega, runL, if_neg (by rw [← hpe.out]; exact he)]; rfl)
        clear hz he
        go_wp2_with (first
          | (at_builtin; refine wpList_push8 rfl _ _ rfl rfl hra _ _ b rfl hcell hlen ?_; intro v2 g2 w2 hr2 hrx hpre hg2 hF2; have hstr := hr2.str 104 9 rfl rfl)
          | (go_at_call 61; refine (ends_any _ (by show (x ++ [b]).length ≤ _; simp; omega) _).mono ?_; rintro e w3 ⟨rfl, hb3⟩; rw [hos, hzH.out]; obtain ⟨f1, f2, f3, f4, f5⟩ := round_near hr hitsz hF1 hfn hF2 hrx hb3))
        have hit3 := f2.trans hit2
        exact ⟨⟨pos + 1, O1, s1, by omega, E.keep O1 s1 wn w3 hIn (Nat.le_of_lt f4) (fun i hi => f5 i (E.lt _ _ _ _ hIn hi) (fun e => hO1o i e hi)), hO1, f3, hit3, f1, hRn, Lib.hid (hcs.out.2 s1 (by omega))⟩, by simp only [World.iterPos, hit3, hit]; omega⟩
    · have hsz4 : (abcd.extract 0 n).size = n := by rw [ByteArray.size_extract]; show min n 4 - 0 = n; omega
      have hnx : ∀ ty, (Instr.next (.pointer (some ⟨w.heap.size, 0, none⟩)) true ty).run Tryd.prog wr = _ := fun ty => Lib.run_next_end_at wr w.heap.size _ pos ty hit (by omega)
      have hRe := Lib.hid (show (true, s1) = R by rw [← hH.out, show n - pos = 0 by omega, runL])
      clear hsz4
      go_wp2_with (fail)
      go_ret
      exact ⟨O1, by rw [← hRe.out]; rfl, by rw [← hRe.out]; exact hI1, hr1, hF1, fun i hi => (hO1 i hi).imp id Nat.le_of_lt⟩
/-- walk -/
theorem walk_any (E : Each k cap n L C step) (hn : n ≤ 4) (hL7 : L ≤ 700) (m : Nat) : ∀ (O : Nat → Prop) (s : σ) (w : World) (v : Value) (og : Option Nat) (x : Word), E.cost s + 4 ^ m ≤ C → x.length + m = L → lettersS x n = true → E.I O s w → Row8 w v og x → (∀ g, og = some g → ¬ O g) →
      Calls Tryd.prog 52 #[v, .int .i64 n, .int .i64 m, .func (.func k) #[] cap] w fun e w' => ∃ O', e = .returned (.bool (runW step n m s x).1) ∧ E.I O' (runW step n m s x).2 w' ∧ Row8 w' v og x ∧ Fr (fun i => O i ∨ og = some i) w w' ∧ ∀ i, O' i → O i ∨ w.heap.size ≤ i := by
  induction m with
  | zero =>
    intro O s w v og x hC hL hl hI hr ho
    refine (walk_zero E O s w v og x (by omega) hl hI hr ho (by have : 4 ^ 0 = 1 := rfl; omega)).mono ?_
    rintro e w' ⟨O', rfl, h1, h2, h3⟩
    exact ⟨O', rfl, h1, h2.same hr ho, ⟨h2.os, h2.tape, h2.output, h2.size, fun i hi hS => h2.block i hi (fun h => hS (Or.inl h))⟩, h3⟩
  | succ m ih =>
    intro O s w v og x hC hL hl hI hr ho
    refine walk_succ E m (m + 1) (4 ^ m) rfl hn (cost_runW hn E.cost_step m) ih O s w v og x ?_ hL hL7 hl hI hr ho
    have h2 : n * 4 ^ m ≤ 4 * 4 ^ m := Nat.mul_le_mul_right _ hn
    rw [Nat.pow_succ] at hC
    omega
end
end Go.Proofs.YtkbfmogjhjdjmaaDoor.Cu
/- The function values that are handed to walk: those of Next, Longer, Count. -/
namespace Go.Proofs.YtkbfmogjhjdjmaaDoor.Cu
open Go.RowKit
theorem Row8.last {w : World} {v : Value} {og : Option Nat} {x : Word} (h : Row8 w v og x) (h1 : 1 ≤ x.length) : ∃ (A : Addr) (cap k : Nat) (c : UInt8), v = .slice (some A) x.length cap ∧ (x.length : Int) - 1 = k ∧ k < x.length ∧ x.getLast? = some c ∧ w.cell? (A.add k) = some (.int .u8 (c.toNat : Int)) := by
  obtain ⟨A, cap, rfl, h2, h3, h4, h5⟩ := h
  cases og with
  | none =>
    obtain ⟨rfl, rfl⟩ := h4 rfl
    omega
  | some g =>
    obtain ⟨off, cs, rfl, e2, e3, e4⟩ := h5 g rfl
    obtain ⟨k, hk⟩ : ∃ k, x.length = k + 1 := ⟨x.length - 1, by omega⟩
    obtain ⟨c, hc⟩ : ∃ c, x[k]? = some c := ⟨_, List.getElem?_eq_getElem (by omega)⟩
    refine ⟨_, cap, k, c, rfl, by omega, by omega, by rw [List.getLast?_eq_getElem?, hk]; exact hc, ?_⟩
    rw [Addr.add_lit, e2.cell]
    exact e4 k c hc
/-- Next's: the last letter goes behind those that are there -/
def stepN (s : Word) (x : Word) : Bool × Word := (true, s ++ [x.getLast?.getD 0])
/-- Longer's: the first word ends it -/
def stepL (_ : Option Word) (x : Word) : Bool × Option Word := (false, some x)
def outL : Option Word → Value
  | none => .string ⟨#[]⟩
  | some x => .string ⟨x.toArray⟩
def errL : Option Word → Value
  | none => .int .i64 12
  | some _ => .int .i64 0
def InL (p q : Nat) (s : Option Word) (w : World) : Prop := p ≠ q ∧ Blk w p 9 #[outL s] ∧ Blk w q 26 #[errL s]
set_option maxRecDepth 100000 in
set_option maxHeartbeats 4000000 in
theorem longerEach_call (p q : Nat) (s : Option Word) (w : World) (v : Value) (og : Option Nat) (x : Word) (hI : InL p q s w) (hr : Row8 w v og x) :
    Calls Tryd.prog 53 #[v, .pointer (some ⟨p, 0, none⟩), .pointer (some ⟨q, 0, none⟩)] w fun e w' => e = .returned (.bool false) ∧ InL p q (some x) w' ∧ Fr (fun i => i = p ∨ i = q) w w' := by
  obtain ⟨hpq, h1, h2⟩ := hI
  have hstr := hr.str 104 9 rfl rfl
  have c1 : w.cell? ⟨p, 0, none⟩ = some (outL s) := h1.cell 0
  have c2 : w.cell? ⟨q, 0, none⟩ = some (errL s) := h2.cell 0
  have f1 := h1.frozen 0
  have f2 := h2.frozen 0
  have hqp : q ≠ p := Ne.symm hpq
  go_enter Tryd.func53, Tryd.ntmps53
  go_wp2_with (fail)
  go_ret
  have hp := (h1.set_ 0 (.string ⟨x.toArray⟩)).far (p := ⟨q, 0, none⟩) hpq (.int .i64 0)
  have hq := (h2.far (p := ⟨p, 0, none⟩) hqp (.string ⟨x.toArray⟩)).set_ 0 (.int .i64 0)
  exact ⟨rfl, ⟨hpq, hp, hq⟩, rfl, rfl, rfl, by simp, fun i hi h => by
    rw [Below.heap_setCell _ _ _ i (fun e => h (Or.inr e)), Below.heap_setCell _ _ _ i (fun e => h (Or.inl e))]⟩
/-- Count's: one more -/
def stepC (s : Nat) (_ : Word) : Bool × Nat := (true, s + 1)
def longerEach (p q n L C : Nat) : Each 53 #[.pointer (some ⟨p, 0, none⟩), .pointer (some ⟨q, 0, none⟩)] n L C stepL where
  I := fun O s w => InL p q s w ∧ ∀ i, O i ↔ i = p ∨ i = q
  cost := fun _ => 0
  cost_step := fun s x => by simp
  enters := enters_of Tryd.func53 (by kernel_rfl) rfl
  lt := fun O s w i h hi => by
    rcases (h.2 i).1 hi with rfl | rfl
    · exact h.1.2.1.lt
    · exact h.1.2.2.lt
  keep := fun O s w w' h _ hk => ⟨⟨h.1.1, (hk p ((h.2 p).2 (Or.inl rfl))).trans h.1.2.1, (hk q ((h.2 q).2 (Or.inr rfl))).trans h.1.2.2⟩, h.2⟩
  call := fun O s w v og x hI hr hx hl ho hc => by
    refine (longerEach_call p q s w v og x hI.1 hr).mono ?_
    rintro e w' ⟨rfl, h1, h2⟩
    exact ⟨O, rfl, ⟨h1, hI.2⟩, ⟨h2.os, h2.tape, h2.output, h2.size, fun i hi h => h2.block i hi fun e => h ((hI.2 i).2 e)⟩, fun i h => Or.inl h⟩
end Go.Proofs.YtkbfmogjhjdjmaaDoor.Cu
/- Next, Longer, Count. -/
namespace Go.Proofs.YtkbfmogjhjdjmaaDoor.Cu
open Go.RowKit
/-- []byte(s) -/
theorem row_bytes (w : World) (s : ByteArray) (hs : s.size ≤ 1000000) : Row8 (w.drew.alloc (.cells (bytesRow s (grownCap w s.size 0 5)) 5 ((bytesRow s (grownCap w s.size 0 5)).size, (bytesRow s (grownCap w s.size 0 5)).size + 1))) (.slice (some ⟨w.heap.size, 0, none⟩) s.size (grownCap w s.size 0 5)) (some w.heap.size) (bts s) := by
  have hge := grownCap_ge w s.size 0 5
  have hmx := grownCap_le_maxLen w s.size 0 5 (by simp only [maxLen]; omega)
  obtain ⟨c, hc⟩ : ∃ c, grownCap w s.size 0 5 = c := ⟨_, rfl⟩
  rw [hc] at hge hmx ⊢
  have hsz : (bytesRow s c).size = c := by
    have e : s.data.size = s.size := rfl
    simp only [bytesRow, Array.size_append, Array.size_map, Array.size_replicate]
    omega
  refine ⟨_, c, by rw [bts_len], by rw [bts_len]; exact hge, hmx, fun h => (by cases h), fun g hg => ?_⟩
  obtain rfl : w.heap.size = g := by simpa using hg
  refine ⟨0, bytesRow s c, rfl, ⟨((bytesRow s c).size, (bytesRow s c).size + 1), heap_alloc_new w.drew _, Or.inr (Nat.le_refl _)⟩, by omega, fun j b hj => ?_⟩
  have hj1 : j < s.data.size := by
    have := (List.getElem?_eq_some_iff.1 hj).1
    rwa [bts_len] at this
  rw [Nat.zero_add, bytesRow_at s c j hj1]
  have h2 := bts_at s j hj1
  rw [hj] at h2
  simp only [Option.some.injEq] at h2
  rw [h2]; rfl
theorem bytes_conv (w : World) (s : ByteArray) (hs : s.size ≤ 1000000) : ∃ v w2, (convert 9 104 (.string s)).run Tryd.prog w = .ok v w2 ∧ Row8 w2 v (some w.heap.size) (bts s) ∧ Below w.heap.size w w2 :=
  ⟨_, _, run_bytes_of_string w 9 104 5 s Tryd.underlying9 Tryd.underlying104 Tryd.underlying5, row_bytes w s hs, (below_drewN (Below.refl w.heap.size w) 1).alloc (Nat.le_refl _) _⟩
/-- what Next returns -/
def nextV (x : Word) (n : Int) : Word := if begE x n = 0 then (runW stepN n.toNat 1 [] x).2 else []
end Go.Proofs.YtkbfmogjhjdjmaaDoor.Cu
/- Longer. -/
namespace Go.Proofs.YtkbfmogjhjdjmaaDoor.Cu
open Go.RowKit
/-- what Longer finds: m letters more -/
def longR (x : Word) (n m : Nat) : Option Word := (runW stepL n m none x).2
def longE (x : Word) (n l : Int) : Int := if begE x n ≠ 0 then begE x n else if ¬ ((x.length : Int) ≤ l ∧ l ≤ 40) then 1 else if (longR x n.toNat (l - x.length).toNat).isSome then 0 else 12
def longV (x : Word) (n l : Int) : Word := if begE x n ≠ 0 then [] else if ¬ ((x.length : Int) ≤ l ∧ l ≤ 40) then [] else (longR x n.toNat (l - x.length).toNat).getD []
theorem out_go (r : Option Word) : outL r = .string ⟨(r.getD []).toArray⟩ := by cases r <;> rfl
theorem err_go (r : Option Word) : errL r = .int .i64 (if r.isSome then 0 else 12) := by cases r <;> rfl
theorem longer_begin (w : World) (s : ByteArray) (hs : s.size ≤ 1000000) : ∃ v w2, (convert 9 104 (.string s)).run Tryd.prog ((w.alloc (.cells #[.int .i64 12] 26 (0, 0))).alloc (.cells #[.string ⟨#[]⟩] 9 (0, 0))) = .ok v w2 ∧
    Row8 w2 v (some (w.heap.size + 2)) (bts s) ∧ InL (w.heap.size + 1) w.heap.size none w2 ∧ Below w.heap.size w w2 ∧ w.heap.size + 2 ≤ w2.heap.size := by
  have q1 := Blk.new w 26 #[.int .i64 12]
  have b1 := (Below.refl w.heap.size w).alloc (Nat.le_refl _) (.cells #[.int .i64 12] 26 (0, 0))
  have s1 : (w.alloc (.cells #[.int .i64 12] 26 (0, 0))).heap.size = w.heap.size + 1 := by simp
  generalize w.alloc (.cells #[.int .i64 12] 26 (0, 0)) = w1 at q1 b1 s1 ⊢
  have q2 := q1.alloc (.cells #[.string ⟨#[]⟩] 9 (0, 0))
  have p2 := Blk.new w1 9 #[.string ⟨#[]⟩]
  have b2 := (Below.refl w1.heap.size w1).alloc (Nat.le_refl _) (.cells #[.string ⟨#[]⟩] 9 (0, 0))
  have s2 : (w1.alloc (.cells #[.string ⟨#[]⟩] 9 (0, 0))).heap.size = w1.heap.size + 1 := by simp
  generalize w1.alloc (.cells #[.string ⟨#[]⟩] 9 (0, 0)) = w2 at q2 p2 b2 s2 ⊢
  obtain ⟨v, w3, hcv, hrow, hb⟩ := bytes_conv w2 s hs
  rw [s2, s1] at hrow
  rw [s1] at p2
  have := hb.size
  exact ⟨v, w3, hcv, hrow, ⟨by omega, p2.callee hb, q2.callee hb⟩, b1.trans ((b2.mono (by omega)).trans (hb.mono (by omega))), by omega⟩
set_option maxRecDepth 100000 in
set_option maxHeartbeats 4000000 in
theorem Longer_any (s : ByteArray) (n l : Int) (w : World) : Calls Tryd.prog 46 #[.string s, .int .i64 n, .int .i64 l] w fun e w' => e = .returned (.tuple #[.string ⟨(longV (bts s) n l).toArray⟩, .int .i64 (longE (bts s) n l)]) ∧ Below w.heap.size w w' := by
  by_cases hc : begE (bts s) n = 0
  · obtain ⟨h1, h2, h3, h4, h5⟩ := begE_zero hc
    obtain ⟨hsz, _⟩ := chkW_zero h1
    rw [bts_len] at hsz
    obtain ⟨k, rfl⟩ : ∃ k : Nat, n = k := ⟨n.toNat, by omega⟩
    have hcH := Lib.hid hc
    have hl := Lib.hid h4
    have hk4 : k ≤ 4 := by omega
    obtain ⟨z, hz⟩ : ∃ z, s.size = z := ⟨_, rfl⟩
    have hzH := Lib.hid hz
    by_cases hr : (z : Int) ≤ l ∧ l ≤ 40
    · obtain ⟨L, rfl⟩ : ∃ L : Nat, l = L := ⟨l.toNat, by omega⟩
      obtain ⟨m, hm⟩ : ∃ m : Nat, (L : Int) - z = m := ⟨L - z, by omega⟩
      obtain ⟨r, hrr⟩ : ∃ r, longR (bts s) k m = r := ⟨_, rfl⟩
      have hV : longV (bts s) (k : Int) (L : Int) = r.getD [] := by rw [longV, if_neg (by simp [hc]), if_neg (by rw [bts_len, hz]; exact fun h => h hr), bts_len, hz, hm, ← hrr]; rfl
      have hE : longE (bts s) (k : Int) (L : Int) = if r.isSome then 0 else 12 := by rw [longE, if_neg (by simp [hc]), if_neg (by rw [bts_len, hz]; exact fun h => h hr), bts_len, hz, hm, ← hrr]; rfl
      rw [hV, hE, ← out_go, ← err_go]
      have hrH := Lib.hid (show (runW stepL k m none (bts s)).2 = r from hrr)
      have hw2 : withinB (L : Int) z 40 = true := by simp [withinB, hr]
      obtain ⟨ov, hov⟩ : ∃ ov, outL r = ov := ⟨_, rfl⟩
      obtain ⟨ev, hev⟩ : ∃ ev, errL r = ev := ⟨_, rfl⟩
      rw [hov, hev]
      have hovH := Lib.hid hov
      have hevH := Lib.hid hev
      have hL40 : L ≤ 40 := by omega
      have hmL : z + m = L := by omega
      have hz600 : z ≤ 600 := by omega
      clear hV hE hrr hc h1 h4 h5 hov hev hsz
      go_enter Tryd.func46, Tryd.ntmps46
      go_wp2_with (first
        | (go_at_call 50; refine (begun_any s k _).mono ?_; rintro e w1 ⟨rfl, hb1⟩; rw [hcH.out]
           obtain ⟨v, w2, hcv, hrow, hI2, hb2, hs2⟩ := longer_begin w1 s (by rw [hzH.out]; omega))
        | (go_at_call 51; refine (within_b _ _ _ _).mono ?_; rintro e wx ⟨rfl, rfl⟩; rw [hw2])
        | (go_at_call 52
           refine (walk_any (longerEach (w1.heap.size + 1) w1.heap.size k L (4 ^ m)) hk4 (by omega) m (fun i => i = w1.heap.size + 1 ∨ i = w1.heap.size) none w2 v _ (bts s) (by show 0 + 4 ^ m ≤ 4 ^ m; omega) (by rw [bts_len, hzH.out]; omega) hl.out ⟨hI2, fun i => Iff.rfl⟩ hrow (fun g hg e => by simp at hg; omega)).mono ?_
           rintro e w3 ⟨O3, rfl, hI3, hr3, hF3, hO3⟩
           rw [hrH.out] at hI3
           have hb3 := hb2.trans (hF3.below fun i hi => ⟨by omega, fun h => h.elim (fun e => by omega) (fun e => by simp at e; omega)⟩)
           have c3 : w3.cell? ⟨w1.heap.size + 1, 0, none⟩ = some ov := by (rw [← hovH.out]; exact hI3.1.2.1.cell 0)
           have d3 : w3.cell? ⟨w1.heap.size, 0, none⟩ = some ev := by (rw [← hevH.out]; exact hI3.1.2.2.cell 0)))
      go_quiet (fail)
      go_wp2_with (fail)
      go_ret2
      exact ⟨rfl, below_drewN (hb1.trans (hb3.mono hb1.size)) _⟩
    · have hV : longV (bts s) (k : Int) l = [] := by rw [longV, if_neg (by simp [hc]), if_pos (by rw [bts_len, hz]; exact hr)]
      have hE : longE (bts s) (k : Int) l = 1 := by rw [longE, if_neg (by simp [hc]), if_pos (by rw [bts_len, hz]; exact hr)]
      rw [hV, hE]
      have hw2 : withinB l z 40 = false := by rw [Bool.eq_false_iff]; intro h; simp [withinB] at h; omega
      clear hV hE hc h1 h4 h5
      go_enter Tryd.func46, Tryd.ntmps46
      go_wp2_with (first
        | (go_at_call 50; refine (begun_any s k _).mono ?_; rintro e w1 ⟨rfl, hb1⟩; rw [hcH.out]
           have hbA := (Below.refl w1.heap.size w1).alloc (Nat.le_refl _) (.cells #[.int .i64 0] 26 (0, 0)))
        | (go_at_call 51; refine (within_b _ _ _ _).mono ?_; rintro e wx ⟨rfl, rfl⟩; rw [hw2]))
      go_ret2
      exact ⟨rfl, hb1.trans (hbA.mono hb1.size)⟩
  · have hV : longV (bts s) n l = [] := by rw [longV, if_pos hc]
    have hE : longE (bts s) n l = begE (bts s) n := by rw [longE, if_pos hc]
    rw [hV, hE]
    obtain ⟨z, hz⟩ : ∃ z, begE (bts s) n = z := ⟨_, rfl⟩
    rw [hz] at hc ⊢
    have hzH := Lib.hid hz
    have hz0 : (z != 0) = true := by simp [hc]
    clear hV hE hz
    go_enter Tryd.func46, Tryd.ntmps46
    go_wp2_with (first
      | (go_at_call 50; refine (begun_any s n _).mono ?_; rintro e w1 ⟨rfl, hb1⟩; rw [hzH.out]
         have hbA := (Below.refl w1.heap.size w1).alloc (Nat.le_refl _) (.cells #[.int .i64 z] 26 (0, 0))))
    go_quiet (fail)
    go_wp2_with (fail)
    go_ret2
    exact ⟨rfl, below_drewN (hb1.trans (hbA.mono hb1.size)) _⟩
end Go.Proofs.YtkbfmogjhjdjmaaDoor.Cu
