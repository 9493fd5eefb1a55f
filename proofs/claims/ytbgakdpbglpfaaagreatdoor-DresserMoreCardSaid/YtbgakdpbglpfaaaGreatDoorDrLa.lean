/- Numbers of words, at every string. -/
import Derived.Test.YtbgakdpbglpfaaaGreatDoorJdi
import Derived.Lib.OthersKept
import Derived.Laws.Runes
import Derived.Laws.RangeAny
import Derived.Lib.SlicesS
import Derived.Test.YtbgakdpbglpfaaaGreatDoorShelf
namespace Go.Proofs.YtbgakdpbglpfaaaGreatDoor
open Go.RowKit
namespace Dr
set_option linter.unusedSimpArgs false
/-- the bytes of a string -/
abbrev byts (s : ByteArray) : List UInt8 := s.data.toList
theorem byts_len (s : ByteArray) : (byts s).length = s.size := by unfold byts ByteArray.size; simp
theorem byts_at {s : ByteArray} {i : Nat} (h : i < s.size) : (byts s)[i]? = some (s[i]'h) := by
  rw [List.getElem?_eq_getElem (by rw [byts_len]; exact h)]
  simp [byts]
  rfl
theorem str_eq (x y : ByteArray) : (x.toList == y.toList) = decide (x = y) := by
  rw [Bool.eq_iff_iff, Go.Lib.bytes_beq_iff]
  simp
theorem valL_snoc (l : List UInt8) (c : UInt8) : valL (l ++ [c]) = 10 * valL l + (c.toNat - 48) := by
  unfold valL
  rw [List.foldl_append]
  rfl
theorem valL_lt (l : List UInt8) : l.all digC = true → valL l < 10 ^ l.length := by
  have key : ∀ (n : Nat) (l : List UInt8), l.length = n → l.all digC = true → valL l < 10 ^ l.length := by
    intro n
    induction n with
    | zero => intro l hl _; rw [List.eq_nil_of_length_eq_zero hl]; decide
    | succ n ih0 =>
    intro l0 hl h
    obtain ⟨l, c, rfl⟩ : ∃ l c, l0 = l ++ [c] := ⟨l0.dropLast, l0.getLast (by intro e; rw [e] at hl; cases hl), (List.dropLast_concat_getLast _).symm⟩
    have ih := ih0 l (by simpa using hl)
    rw [List.all_append, Bool.and_eq_true] at h
    have h1 := ih h.1
    have h2 : digC c = true := by simpa using h.2
    have h3 := dig_le h2
    rw [valL_snoc, List.length_append, List.length_singleton, Nat.pow_succ]
    omega
  exact key l.length l rfl
theorem isE (s : ByteArray) : s.toList.isEmpty = (byts s).isEmpty := by rw [ByteArray.toList_eq]
theorem all_bad {l : List UInt8} {p : UInt8 → Bool} {i : Nat} {c : UInt8} (h : l[i]? = some c) (hp : p c = false) : l.all p = false := by
  rw [Bool.eq_false_iff]
  intro h2
  rw [List.all_eq_true] at h2
  rw [h2 c (List.mem_of_getElem? h)] at hp
  cases hp
set_option maxRecDepth 100000 in
theorem number_no (s : ByteArray) (most : Nat) (h : s.size = 0 ∨ (0 < s.size ∧ most < s.size) ∨ (0 < s.size ∧ s.size ≤ most ∧ 1 < s.size ∧ (byts s)[0]? = some 48)) (w : World) :
    Calls Tryz.prog 84 #[.string s, .int .i64 (most : Int)] w fun e w' => e = .returned (.tuple #[.int .i64 0, .bool false]) ∧ w' = w := by
  rcases h with h | h | h
  · have h0 : s.toList = [] := by rw [ByteArray.toList_eq]; exact List.eq_nil_of_length_eq_zero (by rw [byts_len]; exact h)
    have h1 : s.toList.isEmpty = true := by rw [h0]; rfl
    go_enter Tryz.func84, Tryz.ntmps84
    go_wp2_with (fail)
    go_ret2
    exact ⟨rfl, rfl⟩
  · have h0 : ¬ s.toList = [] := fun e => by rw [ByteArray.toList_eq] at e; have := byts_len s; unfold byts at this; rw [e] at this; simp at this; omega
    have h1 : s.toList.isEmpty = false := by simpa using h0
    have h2 := h.2
    have h3 : decide (most < s.size) = true := by simpa using h2
    go_enter Tryz.func84, Tryz.ntmps84
    go_wp2_with (fail)
    go_ret2
    exact ⟨rfl, rfl⟩
  · obtain ⟨hp, h2, h4, h5⟩ := h
    have h0 : ¬ s.toList = [] := fun e => by rw [ByteArray.toList_eq] at e; have := byts_len s; unfold byts at this; rw [e] at this; simp at this; omega
    have h1 : s.toList.isEmpty = false := by simpa using h0
    have h3 : decide (most < s.size) = false := by simpa using h2
    have h4' : (1 : Int) < s.size := by omega
    have h6 : (((s[0]'hp).toNat : Int) == 48) = true := by
      rw [byts_at hp] at h5
      injection h5 with h5
      rw [h5]; rfl
    go_enter Tryz.func84, Tryz.ntmps84
    go_wp2_with (fail)
    go_ret2
    exact ⟨rfl, rfl⟩
set_option maxRecDepth 100000 in
theorem number_go (s : ByteArray) (most : Nat) (hm : most ≤ 5) (hp : 0 < s.size) (hms : s.size ≤ most) (hD : ¬ 1 < s.size ∨ 1 < s.size ∧ (byts s)[0]? ≠ some 48) (w : World) :
    Calls Tryz.prog 84 #[.string s, .int .i64 (most : Int)] w fun e w' => e = .returned (if (byts s).all digC then .tuple #[.int .i64 (valL (byts s) : Int), .bool true] else .tuple #[.int .i64 0, .bool false]) ∧ Below w.heap.size w w' := by
  have h0 : ¬ s.toList = [] := fun e => by rw [ByteArray.toList_eq] at e; have := byts_len s; unfold byts at this; rw [e] at this; simp at this; omega
  have h1 : s.toList.isEmpty = false := by simpa using h0
  have h3 : decide (most < s.size) = false := by simpa using hms
  obtain ⟨R, hR⟩ : ∃ R, (if (byts s).all digC then Value.tuple #[.int .i64 (valL (byts s) : Int), .bool true] else .tuple #[.int .i64 0, .bool false]) = R := ⟨_, rfl⟩
  have HR := Lib.hid hR
  rw [hR]
  have hs5 : s.size ≤ 5 := by omega
  have key : ∀ (b : Bool), (if b then (1 : Int) < s.size ∧ (((s[0]'hp).toNat : Int) == 48) = false else ¬ (1 : Int) < s.size) → Calls Tryz.prog 84 #[.string s, .int .i64 (most : Int)] w fun e w' => e = .returned R ∧ Below w.heap.size w w' := by
    intro b hb
    clear hD hR
    cases b
    all_goals simp only [if_true, if_false, Bool.false_eq_true] at hb
    rotate_left
    · obtain ⟨h4, h6⟩ := hb
      go_enter Tryz.func84, Tryz.ntmps84
      go_wp2_with (fail)
      go_loopw [6] (fun v wr => ∃ pos : Nat, pos ≤ s.size ∧ v = .int .i64 (valL ((byts s).take pos) : Int) ∧ wr.heap[w.heap.size]? = some (.stringIter s pos) ∧ Hid (((byts s).take pos).all digC = true) ∧ Below w.heap.size w wr) (fun _ wr => s.size - wr.iterPos w.heap.size)
      case atStart => exact ⟨0, Nat.zero_le _, rfl, by first | exact World.iter_heap w s 0 | simp, rfl, (Below.refl _ _).alloc (Nat.le_refl _) _⟩
      case round =>
        obtain ⟨pos, hpos, rfl, hit, hdg, hbe⟩ := hrel
        obtain ⟨n, hn⟩ : ∃ n, valL ((byts s).take pos) = n := ⟨_, rfl⟩
        have hnl : n < 10 ^ pos := by
          have h := valL_lt _ hdg.out
          rw [hn, List.length_take, byts_len, Nat.min_eq_left hpos] at h
          exact h
        have HN := Lib.hid hn
        rw [hn]
        clear hn
        by_cases hp2 : pos < s.size
        · have hbyte := byts_at hp2
          have hn4 : n < 10000 := Nat.lt_of_lt_of_le hnl (Nat.pow_le_pow_right (by decide) (show pos ≤ 4 by omega))
          by_cases ha : (s[pos]'hp2).toNat < 128
          · have hnx : ∀ ty, (Instr.next (.pointer (some ⟨w.heap.size, 0, none⟩)) true ty).run Tryz.prog wr = _ := fun ty => Lib.run_next_ascii_at wr w.heap.size s pos ty hit hp2 ha
            have hit2 := Lib.iterAt_heap wr w.heap.size s pos (pos + 1) hit
            have hbe2 := Lib.below_iterAt hbe (k := w.heap.size) (Nat.le_refl _) s (pos + 1)
            obtain ⟨c, hc⟩ : ∃ c, (s[pos]'hp2) = c := ⟨_, rfl⟩
            rw [hc] at hnx ha hbyte
            clear hc
            obtain ⟨k, hk⟩ : ∃ k, c.toNat = k := ⟨_, rfl⟩
            rw [hk] at hnx ha
            have HK := Lib.hid hk
            have HBY := Lib.hid hbyte
            clear hk hbyte
            by_cases h48 : k < 48
            · have e1 : (k : Int) < 48 := by omega
              go_wp2_with (fail)
              go_ret2
              refine ⟨?_, hbe2⟩
              rw [← HR.out, all_bad HBY.out (by unfold digC; rw [HK.out]; simp; omega)]
              rfl
            · by_cases h57 : 57 < k
              · have e1 : ¬ (k : Int) < 48 := by omega
                have e2 : (57 : Int) < k := by omega
                go_wp2_with (fail)
                go_ret2
                refine ⟨?_, hbe2⟩
                rw [← HR.out, all_bad HBY.out (by unfold digC; rw [HK.out]; simp; omega)]
                rfl
              · have e1 : ¬ (k : Int) < 48 := by omega
                have e2 : ¬ (57 : Int) < k := by omega
                go_wp2_with (fail)
                have htk : (byts s).take (pos + 1) = (byts s).take pos ++ [c] := by rw [List.take_add_one, HBY.out]; rfl
                go_roundw
                case rel =>
                  refine ⟨pos + 1, by omega, ?_, hit2, ?_, hbe2⟩
                  · rw [htk, valL_snoc, HN.out, HK.out]
                    congr 1
                    omega
                  · rw [htk, List.all_append, Bool.and_eq_true]
                    refine ⟨hdg.out, ?_⟩
                    unfold digC
                    rw [List.all_cons, HK.out]
                    simp
                    omega
                case measure => simp only [World.iterPos, hit2, hit]; omega
          · have hnx : ∀ ty, (Instr.next (.pointer (some ⟨w.heap.size, 0, none⟩)) true ty).run Tryz.prog wr = _ := fun ty => Lib.run_next_any_at wr w.heap.size s pos ty hit hp2
            have hdh := (decode_high s pos hp2 (by omega)).1
            have hbe2 := Lib.below_iterAt hbe (k := w.heap.size) (Nat.le_refl _) s (pos + (Utf8.decode s pos).2)
            obtain ⟨r, hr⟩ : ∃ r, (Utf8.decode s pos).1 = r := ⟨_, rfl⟩
            rw [hr] at hnx hdh
            clear hr
            have e1 : ¬ (r : Int) < 48 := by omega
            have e2 : (57 : Int) < r := by omega
            go_wp2_with (fail)
            go_ret2
            refine ⟨?_, hbe2⟩
            rw [← HR.out, all_bad hbyte (by unfold digC; simp; omega)]
            rfl
        · have hnx : ∀ ty, (Instr.next (.pointer (some ⟨w.heap.size, 0, none⟩)) true ty).run Tryz.prog wr = _ := fun ty => Lib.run_next_end_at wr w.heap.size s pos ty hit hp2
          have ht : (byts s).take pos = byts s := List.take_of_length_le (by rw [byts_len]; omega)
          go_wp2_with (fail)
          go_ret2
          refine ⟨?_, hbe⟩
          have h := hdg.out
          rw [ht] at h
          rw [← HR.out, if_pos h, ← HN.out, ht]
          rfl
    · go_enter Tryz.func84, Tryz.ntmps84
      go_wp2_with (fail)
      go_loopw [6] (fun v wr => ∃ pos : Nat, pos ≤ s.size ∧ v = .int .i64 (valL ((byts s).take pos) : Int) ∧ wr.heap[w.heap.size]? = some (.stringIter s pos) ∧ Hid (((byts s).take pos).all digC = true) ∧ Below w.heap.size w wr) (fun _ wr => s.size - wr.iterPos w.heap.size)
      case atStart => exact ⟨0, Nat.zero_le _, rfl, by first | exact World.iter_heap w s 0 | simp, rfl, (Below.refl _ _).alloc (Nat.le_refl _) _⟩
      case round =>
        obtain ⟨pos, hpos, rfl, hit, hdg, hbe⟩ := hrel
        obtain ⟨n, hn⟩ : ∃ n, valL ((byts s).take pos) = n := ⟨_, rfl⟩
        have hnl : n < 10 ^ pos := by
          have h := valL_lt _ hdg.out
          rw [hn, List.length_take, byts_len, Nat.min_eq_left hpos] at h
          exact h
        have HN := Lib.hid hn
        rw [hn]
        clear hn
        by_cases hp2 : pos < s.size
        · have hbyte := byts_at hp2
          have hn4 : n < 10000 := Nat.lt_of_lt_of_le hnl (Nat.pow_le_pow_right (by decide) (show pos ≤ 4 by omega))
          by_cases ha : (s[pos]'hp2).toNat < 128
          · have hnx : ∀ ty, (Instr.next (.pointer (some ⟨w.heap.size, 0, none⟩)) true ty).run Tryz.prog wr = _ := fun ty => Lib.run_next_ascii_at wr w.heap.size s pos ty hit hp2 ha
            have hit2 := Lib.iterAt_heap wr w.heap.size s pos (pos + 1) hit
            have hbe2 := Lib.below_iterAt hbe (k := w.heap.size) (Nat.le_refl _) s (pos + 1)
            obtain ⟨c, hc⟩ : ∃ c, (s[pos]'hp2) = c := ⟨_, rfl⟩
            rw [hc] at hnx ha hbyte
            clear hc
            obtain ⟨k, hk⟩ : ∃ k, c.toNat = k := ⟨_, rfl⟩
            rw [hk] at hnx ha
            have HK := Lib.hid hk
            have HBY := Lib.hid hbyte
            clear hk hbyte
            by_cases h48 : k < 48
            · have e1 : (k : Int) < 48 := by omega
              go_wp2_with (fail)
              go_ret2
              refine ⟨?_, hbe2⟩
              rw [← HR.out, all_bad HBY.out (by unfold digC; rw [HK.out]; simp; omega)]
              rfl
            · by_cases h57 : 57 < k
              · have e1 : ¬ (k : Int) < 48 := by omega
                have e2 : (57 : Int) < k := by omega
                go_wp2_with (fail)
                go_ret2
                refine ⟨?_, hbe2⟩
                rw [← HR.out, all_bad HBY.out (by unfold digC; rw [HK.out]; simp; omega)]
                rfl
              · have e1 : ¬ (k : Int) < 48 := by omega
                have e2 : ¬ (57 : Int) < k := by omega
                go_wp2_with (fail)
                have htk : (byts s).take (pos + 1) = (byts s).take pos ++ [c] := by rw [List.take_add_one, HBY.out]; rfl
                go_roundw
                case rel =>
                  refine ⟨pos + 1, by omega, ?_, hit2, ?_, hbe2⟩
                  · rw [htk, valL_snoc, HN.out, HK.out]
                    congr 1
                    omega
                  · rw [htk, List.all_append, Bool.and_eq_true]
                    refine ⟨hdg.out, ?_⟩
                    unfold digC
                    rw [List.all_cons, HK.out]
                    simp
                    omega
                case measure => simp only [World.iterPos, hit2, hit]; omega
          · have hnx : ∀ ty, (Instr.next (.pointer (some ⟨w.heap.size, 0, none⟩)) true ty).run Tryz.prog wr = _ := fun ty => Lib.run_next_any_at wr w.heap.size s pos ty hit hp2
            have hdh := (decode_high s pos hp2 (by omega)).1
            have hbe2 := Lib.below_iterAt hbe (k := w.heap.size) (Nat.le_refl _) s (pos + (Utf8.decode s pos).2)
            obtain ⟨r, hr⟩ : ∃ r, (Utf8.decode s pos).1 = r := ⟨_, rfl⟩
            rw [hr] at hnx hdh
            clear hr
            have e1 : ¬ (r : Int) < 48 := by omega
            have e2 : (57 : Int) < r := by omega
            go_wp2_with (fail)
            go_ret2
            refine ⟨?_, hbe2⟩
            rw [← HR.out, all_bad hbyte (by unfold digC; simp; omega)]
            rfl
        · have hnx : ∀ ty, (Instr.next (.pointer (some ⟨w.heap.size, 0, none⟩)) true ty).run Tryz.prog wr = _ := fun ty => Lib.run_next_end_at wr w.heap.size s pos ty hit hp2
          have ht : (byts s).take pos = byts s := List.take_of_length_le (by rw [byts_len]; omega)
          go_wp2_with (fail)
          go_ret2
          refine ⟨?_, hbe⟩
          have h := hdg.out
          rw [ht] at h
          rw [← HR.out, if_pos h, ← HN.out, ht]
          rfl
  rcases hD with h | ⟨h, h5⟩
  · exact key false (by simp; omega)
  · refine key true ?_
    simp only [if_true]
    refine ⟨by omega, ?_⟩
    rw [byts_at hp] at h5
    simp at h5 ⊢
    intro e
    exact h5 (UInt8.toNat_inj.1 (by simpa using by omega))
def numV (o : Option Nat) : Value := match o with
  | some n => .tuple #[.int .i64 (n : Int), .bool true]
  | none => .tuple #[.int .i64 0, .bool false]
theorem number_any (s : ByteArray) (most : Nat) (hm : most ≤ 5) (w : World) :
    Calls Tryz.prog 84 #[.string s, .int .i64 (most : Int)] w fun e w' => e = .returned (numV (numOf (byts s) most)) ∧ Below w.heap.size w w' := by
  have hl := byts_len s
  have hh : (byts s).head? = (byts s)[0]? := by cases byts s <;> rfl
  by_cases h0 : s.size = 0
  · have hn : numOf (byts s) most = none := by
      unfold numOf
      rw [if_pos (by rw [List.eq_nil_of_length_eq_zero (hl.trans h0)]; rfl)]
    rw [hn]
    exact (number_no s most (Or.inl h0) w).mono fun e w' ⟨h1, h2⟩ => ⟨h1, by rw [h2]; exact Below.refl _ _⟩
  have hne : (byts s).isEmpty = false := by
    cases hb : byts s with
    | nil => rw [hb] at hl; simp at hl; omega
    | cons a l => rfl
  by_cases hm2 : most < s.size
  · have hn : numOf (byts s) most = none := by
      unfold numOf
      rw [if_pos (by simp [hl, hm2])]
    rw [hn]
    exact (number_no s most (Or.inr (Or.inl ⟨by omega, hm2⟩)) w).mono fun e w' ⟨h1, h2⟩ => ⟨h1, by rw [h2]; exact Below.refl _ _⟩
  by_cases h48 : 1 < s.size ∧ (byts s)[0]? = some 48
  · have hn : numOf (byts s) most = none := by
      unfold numOf
      rw [if_pos (by simp [hl, hh, h48.1, h48.2])]
    rw [hn]
    exact (number_no s most (Or.inr (Or.inr ⟨by omega, by omega, h48⟩)) w).mono fun e w' ⟨h1, h2⟩ => ⟨h1, by rw [h2]; exact Below.refl _ _⟩
  · have hD : ¬ 1 < s.size ∨ 1 < s.size ∧ (byts s)[0]? ≠ some 48 := by
      by_cases h1 : 1 < s.size
      · exact Or.inr ⟨h1, fun e => h48 ⟨h1, e⟩⟩
      · exact Or.inl h1
    have hc : ((byts s).isEmpty || decide (most < (byts s).length) || (decide (1 < (byts s).length) && (byts s).head? == some 48)) = false := by
      rw [hne, hl, hh]
      rcases hD with h | ⟨h, h2⟩
      · simp [hm2, h]
      · have : ((byts s)[0]? == some 48) = false := by simpa using h2
        rw [this, Bool.and_false]
        simp [hm2]
    have hn : numOf (byts s) most = if (byts s).all digC then some (valL (byts s)) else none := by
      unfold numOf
      rw [hc, if_neg (by decide)]
    rw [hn]
    refine (number_go s most hm (by omega) (by omega) hD w).mono fun e w' ⟨h1, h2⟩ => ⟨?_, h2⟩
    rw [h1]
    cases (byts s).all digC <;> rfl
/-- is there a rune of which p holds -/
theorem idx_all {p : Nat → Bool} {q : UInt8 → Bool} (h1 : ∀ b : UInt8, b.toNat < 128 → p b.toNat = !q b) (h2 : ∀ r, 128 ≤ r → p r = true) (h3 : ∀ b : UInt8, 128 ≤ b.toNat → q b = false) (s : ByteArray) :
    ∀ f pos, s.size ≤ pos + f → decide (0 ≤ Lib.idxFuncFrom p true s f pos) = !((byts s).drop pos).all q := by
  intro f
  induction f with
  | zero =>
    intro pos hp
    rw [List.drop_of_length_le (by rw [byts_len]; omega)]
    rfl
  | succ f ih =>
    intro pos hp
    unfold Lib.idxFuncFrom
    by_cases hlt : pos < s.size
    · rw [if_pos hlt]
      have hd : (byts s).drop pos = (s[pos]'hlt) :: (byts s).drop (pos + 1) := by
        rw [List.drop_eq_getElem_cons (by rw [byts_len]; exact hlt)]
        congr 1
      rw [hd, List.all_cons]
      by_cases ha : (s[pos]'hlt).toNat < 128
      · rw [decode_ascii s pos hlt ha]
        have h := h1 _ ha
        cases hq : q (s[pos]'hlt) with
        | true =>
          rw [hq] at h
          rw [if_neg (by rw [h]; decide), Bool.true_and]
          exact ih (pos + 1) (by omega)
        | false =>
          rw [hq] at h
          rw [if_pos (by rw [h]; rfl)]
          simp
      · have hdh := (decode_high s pos hlt (by omega)).1
        rw [if_pos (h2 _ hdh), h3 _ (by omega)]
        simp
    · rw [if_neg hlt, List.drop_of_length_le (by rw [byts_len]; omega)]
      rfl
theorem idx_all0 {p : Nat → Bool} {q : UInt8 → Bool} (h1 : ∀ b : UInt8, b.toNat < 128 → p b.toNat = !q b) (h2 : ∀ r, 128 ≤ r → p r = true) (h3 : ∀ b : UInt8, 128 ≤ b.toNat → q b = false) (s : ByteArray) :
    decide (0 ≤ Lib.idxFunc p true s) = !(byts s).all q := by
  have h := idx_all h1 h2 h3 s s.size 0 (by omega)
  rw [List.drop_zero] at h
  exact h
theorem low_rune {r : Nat} {w : World} : FnGives Tryz.prog 166 #[] #[encR r] (.bool (decide (r < 97) || decide (122 < r))) w := by
  show Calls Tryz.prog 166 #[.int .i32 (r : Int)] w _
  by_cases h1 : r < 97
  · have e1 : (r : Int) < 97 := by omega
    go_enter Tryz.func166, Tryz.ntmps166
    go_wp2
    go_ret
    exact ⟨by simp [h1], 0, rfl⟩
  · have e1 : ¬ (r : Int) < 97 := by omega
    by_cases h2 : 122 < r
    · have e2 : (122 : Int) < r := by omega
      go_enter Tryz.func166, Tryz.ntmps166
      go_wp2
      go_ret
      exact ⟨by simp [h2, e2], 0, rfl⟩
    · have e2 : ¬ (122 : Int) < r := by omega
      go_enter Tryz.func166, Tryz.ntmps166
      go_wp2
      go_ret
      exact ⟨by simp [h1, h2, e2], 0, rfl⟩
theorem ok_rune {r : Nat} {w : World} : FnGives Tryz.prog 121 #[] #[encR r] (.bool (decide (r < 33) || decide (126 < r))) w := by
  show Calls Tryz.prog 121 #[.int .i32 (r : Int)] w _
  by_cases h1 : r < 33
  · have e1 : (r : Int) < 33 := by omega
    go_enter Tryz.func121, Tryz.ntmps121
    go_wp2
    go_ret
    exact ⟨by simp [h1], 0, rfl⟩
  · have e1 : ¬ (r : Int) < 33 := by omega
    by_cases h2 : 126 < r
    · have e2 : (126 : Int) < r := by omega
      go_enter Tryz.func121, Tryz.ntmps121
      go_wp2
      go_ret
      exact ⟨by simp [h2, e2], 0, rfl⟩
    · have e2 : ¬ (126 : Int) < r := by omega
      go_enter Tryz.func121, Tryz.ntmps121
      go_wp2
      go_ret
      exact ⟨by simp [h1, h2, e2], 0, rfl⟩
theorem notLow_any (s : ByteArray) (w : World) : Calls Tryz.prog 120 #[.string s, .func (.func 166) #[] #[]] w fun e w' => e = .returned (.bool (!(byts s).all lowC)) ∧ Below w.heap.size w w' := by
  have h := Tryz.strings_ContainsFunc 166 #[] (enters_of Tryz.func166 (by kernel_rfl) rfl) (fun r => decide (r < 97) || decide (122 < r)) s w (fun W x _ => low_rune)
  rw [idx_all0 (q := lowC) (fun b _ => by unfold lowC; rw [Bool.not_and]; congr 1 <;> (rw [Bool.eq_iff_iff]; simp)) (fun r hr => by simp; omega) (fun b hb => by unfold lowC; simp; omega)] at h
  exact h
theorem notOk_any (s : ByteArray) (w : World) : Calls Tryz.prog 120 #[.string s, .func (.func 121) #[] #[]] w fun e w' => e = .returned (.bool (!(byts s).all okC)) ∧ Below w.heap.size w w' := by
  have h := Tryz.strings_ContainsFunc 121 #[] (enters_of Tryz.func121 (by kernel_rfl) rfl) (fun r => decide (r < 33) || decide (126 < r)) s w (fun W x _ => ok_rune)
  rw [idx_all0 (q := okC) (fun b _ => by unfold okC; rw [Bool.not_and]; congr 1 <;> (rw [Bool.eq_iff_iff]; simp)) (fun r hr => by simp; omega) (fun b hb => by unfold okC; simp; omega)] at h
  exact h
set_option maxRecDepth 100000 in
theorem named_any (s : ByteArray) (w : World) : Calls Tryz.prog 123 #[.string s] w fun e w' => e = .returned (.bool (isName (byts s))) ∧ Below w.heap.size w w' := by
  have hl := byts_len s
  have HC := Lib.hid (notLow_any s w)
  by_cases h0 : s.toList = []
  · have h1 : s.toList.isEmpty = true := by rw [h0]; rfl
    have hn : isName (byts s) = false := by unfold isName; rw [← isE, h1]; rfl
    rw [hn]
    go_enter Tryz.func123, Tryz.ntmps123
    go_wp2_with (fail)
    go_ret
    exact ⟨rfl, Below.refl _ _⟩
  have h1 : s.toList.isEmpty = false := by simpa using h0
  by_cases h2 : s.size ≤ 10
  · have hn : isName (byts s) = (byts s).all lowC := by unfold isName; rw [← isE, h1, hl]; simp [h2]
    rw [hn]
    have h3 : (s.size : Int) ≤ 10 := by omega
    obtain ⟨b, hb⟩ : ∃ b, (byts s).all lowC = b := ⟨_, rfl⟩
    rw [hb] at HC ⊢
    clear hn hb hl
    go_enter Tryz.func123, Tryz.ntmps123
    go_wp2_with (go_at_call 120; (with_reducible refine HC.out.mono ?_); rintro e w1 ⟨rfl, hb1⟩)
    go_ret
    exact ⟨by simp, hb1⟩
  · have hn : isName (byts s) = false := by unfold isName; rw [hl]; simp [h2]
    rw [hn]
    have h3 : ¬ (s.size : Int) ≤ 10 := by omega
    go_enter Tryz.func123, Tryz.ntmps123
    go_wp2_with (fail)
    go_ret
    exact ⟨rfl, Below.refl _ _⟩
end Dr
end Go.Proofs.YtbgakdpbglpfaaaGreatDoor
