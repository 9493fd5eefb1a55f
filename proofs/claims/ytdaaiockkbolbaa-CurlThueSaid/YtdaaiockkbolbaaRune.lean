/- The library's IndexRune in the four letters, at every rune; the program's highest. -/
import Derived.Test.YtdaaiockkbolbaaShelf
import Derived.Test.YtdaaiockkbolbaaWords
import Derived.Lib.OthersKept
import Derived.Laws.Runes
import Derived.Laws.RangeAny
namespace Go.Proofs.Ytdaaiockkbolbaa
open Go.RowKit
abbrev abcd : ByteArray := ⟨#[97, 98, 99, 100]⟩
theorem abcd_at {p : Nat} (h : p < abcd.size) : (abcd[p]'h).toNat < 128 := by
  have h4 : p < 4 := h
  match p, h4 with
  | 0, _ => show (97 : UInt8).toNat < 128; decide
  | 1, _ => show (98 : UInt8).toNat < 128; decide
  | 2, _ => show (99 : UInt8).toNat < 128; decide
  | 3, _ => show (100 : UInt8).toNat < 128; decide
theorem indexByte_no {l : Word} {c : UInt8} (h : ∀ b ∈ l, b ≠ c) : Lib.indexByte l c = -1 := by
  induction l with
  | nil => rfl
  | cons b l ih =>
    have h1 : (b == c) = false := by simpa using h b (by simp)
    rw [Lib.indexByte, h1, ih (fun x hx => h x (by simp [hx]))]
    rfl
theorem abcd_no {k : Nat} {c : Nat} (h1 : 128 ≤ c) (h2 : c < 256) : Lib.indexByte (abcd.extract k 4).data.toList (c : Nat).toUInt8 = -1 := by
  refine indexByte_no fun b hb => ?_
  have hb1 : b ∈ bts (abcd.extract k 4) := hb
  rw [bts_extract] at hb1
  have hb2 : b ∈ bts abcd := List.mem_of_mem_take (List.mem_of_mem_drop hb1)
  have hb3 : b.toNat < 128 := by
    simp [bts] at hb2
    rcases hb2 with rfl | rfl | rfl | rfl <;> decide
  intro e
  subst e
  rw [Nat.toUInt8, UInt8.toNat_ofNat'] at hb3
  omega
set_option maxRecDepth 100000 in
set_option maxHeartbeats 4000000 in
theorem indexRune_high (r : Nat) (h1 : 128 ≤ r) (h2 : r ≤ 2147483647) (w : World) :
    Calls Try.prog 82 #[.string abcd, .int .i32 r] w fun e w' => e = .returned (.int .i64 (-1)) ∧ Below w.heap.size w w' := by
  have h1i : ¬ (r : Int) < 128 := by omega
  have h0i : (0 : Int) ≤ r := by omega
  by_cases he : r = 65533
  · subst he
    go_enter Try.func82, Try.ntmps82
    go_wp2_with (fail)
    go_loopw [] (fun wr => ∃ pos : Nat, pos ≤ 4 ∧ wr.heap[w.heap.size]? = some (.stringIter abcd pos) ∧ Below w.heap.size w wr) (fun wr => 4 - wr.iterPos w.heap.size)
    case atStart => exact ⟨0, by omega, by first | exact World.iter_heap w abcd 0 | simp, (Below.refl _ _).alloc (Nat.le_refl _) _⟩
    case round =>
      obtain ⟨pos, hpos, hit, hbe⟩ := hrel
      by_cases hp : pos < abcd.size
      · have hnx : ∀ ty, (Instr.next (.pointer (some ⟨w.heap.size, 0, none⟩)) true ty).run Try.prog wr = _ := fun ty => Lib.run_next_ascii_at wr w.heap.size abcd pos ty hit hp (abcd_at hp)
        have hne : (((abcd[pos]'hp).toNat : Int) == 65533) = false := by
          have := abcd_at hp
          simp; omega
        have hit2 := Lib.iterAt_heap wr w.heap.size abcd pos (pos + 1) hit
        have hbe2 := Lib.below_iterAt hbe (k := w.heap.size) (Nat.le_refl _) abcd (pos + 1)
        have hp4 : pos < 4 := hp
        go_wp2_with (fail)
        go_roundw
        case rel => exact ⟨pos + 1, by omega, hit2, hbe2⟩
        case measure => simp only [World.iterPos, hit2, hit]; omega
      · have hnx : ∀ ty, (Instr.next (.pointer (some ⟨w.heap.size, 0, none⟩)) true ty).run Try.prog wr = _ := fun ty => Lib.run_next_end_at wr w.heap.size abcd pos ty hit hp
        go_wp2_with (fail)
        go_ret
        exact ⟨rfl, hbe⟩
  · have hei : ((r : Int) == 65533) = false := by simp; omega
    cases hv : Lib.validRune (r : Int) with
    | false =>
      go_enter Try.func82, Try.ntmps82
      go_wp2_with (first
        | (go_at_call 90; refine (Try.utf8_ValidRune _ _).mono ?_; rintro e w2 ⟨rfl, rfl⟩; rw [hv]))
      go_ret
      exact ⟨rfl, Below.refl _ _⟩
    | true =>
      have hvu : Utf8.valid (r : Int) = true := by
        simp only [Lib.validRune, decide_eq_true_eq] at hv
        simp [Utf8.valid]; omega
      obtain ⟨E, hE⟩ : ∃ E, Utf8.encode (r : Int) = E := ⟨_, rfl⟩
      obtain ⟨z1, z2, z3⟩ := encode_facts (r : Int) hvu (by omega)
      rw [hE] at z1 z2 z3
      obtain ⟨i, hi⟩ : ∃ i : Nat, (E.size : Int) - 1 = i := ⟨E.size - 1, by omega⟩
      have hiE : i < E.size := by omega
      have hi4 : i < 4 := by omega
      have hic : (i : Int) < 4 := by omega
      have hia : i < abcd.size := hi4
      have hl : 128 ≤ (E[i]'hiE).toNat := by
        have := z3 (by omega)
        have e : E.size - 1 = i := by omega
        simpa only [e] using this
      have ha := abcd_at hia
      have hne : (((abcd[i]'hia).toNat : Int) != ((E[i]'hiE).toNat : Int)) = true := by simp; omega
      have hl2 : (E[i]'hiE).toNat < 256 := UInt8.toNat_lt _
      have hno := Lib.hid (show Lib.indexByte (abcd.extract (i + 1) 4).data.toList (((E[i]'hiE).toNat : Nat) : Int).toNat.toUInt8 = -1 by rw [Int.toNat_natCast]; exact abcd_no hl hl2)
      obtain ⟨i1, hi1⟩ : ∃ i1 : Nat, (i : Int) + 1 = i1 := ⟨i + 1, by omega⟩
      have hi1e : i + 1 = i1 := by omega
      rw [hi1e] at hno
      have hi14 : i1 ≤ 4 := by omega
      have hw1 : Value.int .i64 (IntKind.i64.wrap (i1 : Int)) = Value.int .i64 (i1 : Int) := by rw [IntWalk.i64_in _ (by omega)]
      have hi14i : (i1 : Int) ≤ 4 := by omega
      have hsz4 : abcd.size = 4 := rfl
      clear z3 hi1e
      go_enter Try.func82, Try.ntmps82
      go_wp2_with (first
        | (go_at_call 90; refine (Try.utf8_ValidRune _ _).mono ?_; rintro e w2 ⟨rfl, rfl⟩; rw [hv]))
      go_step3
      go_wp2_with (fail)
      go_loopw [9] (fun v wr => v = .int .i64 i ∧ wr = w2) (fun _ _ => 0)
      case atStart => exact ⟨rfl, rfl⟩
      case round =>
        obtain ⟨rfl, rfl⟩ := hrel
        go_wp2_with (fail)
        try go_step3
        try go_wp2_with (fail)
        go_quiet (fail)
        have hbq := below_drewN (Below.refl wr.heap.size wr) nq
        go_wp2_with (fail)
        generalize wr.drewN nq = wq at hbq ⊢
        go_quiet (first | (go_at_call 89; exact Calls.quiet_of_same (Try.strings_IndexByte _ _ _)))
        rw [hno.out]
        go_wp2_with (fail)
        rw [Exit.noGoto_ret]
        simp +zetaDelta only [Exit.inBlock, Exit.then, Exit.noGoto]
        go_ret
        exact ⟨rfl, below_drewN hbq _⟩
theorem indexByte_letter {b : Nat} (h1 : 97 ≤ b) (h2 : b ≤ 100) : Lib.indexByte abcd.data.toList (b : Int).toNat.toUInt8 = (b : Int) - 97 := by
  obtain ⟨k, rfl⟩ : ∃ k, b = 97 + k := ⟨b - 97, by omega⟩
  have hk : k < 4 := by omega
  match k, hk with
  | 0, _ => rfl
  | 1, _ => rfl
  | 2, _ => rfl
  | 3, _ => rfl
theorem indexByte_none {b : Nat} (h0 : b < 256) (h : ¬ (97 ≤ b ∧ b ≤ 100)) : Lib.indexByte abcd.data.toList (b : Int).toNat.toUInt8 = -1 := by
  refine indexByte_no fun c hc => ?_
  have hc2 : c = 97 ∨ c = 98 ∨ c = 99 ∨ c = 100 := by simpa using hc
  intro e
  subst e
  have e2 : (b : Int).toNat.toUInt8.toNat = b := by rw [Int.toNat_natCast, Nat.toUInt8, UInt8.toNat_ofNat']; omega
  rcases hc2 with h1 | h1 | h1 | h1 <;> rw [h1] at e2 <;> simp at e2 <;> omega
set_option maxRecDepth 100000 in
set_option maxHeartbeats 4000000 in
theorem highest_any (s : ByteArray) (w : World) :
    Calls Try.prog 52 #[.string s] w fun e w' => e = .returned (.int .i64 (highS (bts s))) ∧ Below w.heap.size w w' := by
  go_enter Try.func52, Try.ntmps52
  go_wp2_with (fail)
  go_loopw [3] (fun o wr => ∃ pos : Nat, pos ≤ s.size ∧ o = .int .i64 (highN ((bts s).take pos) : Nat) ∧ Hid (lettersS ((bts s).take pos) 4 = true) ∧ wr.heap[w.heap.size]? = some (.stringIter s pos) ∧ Below w.heap.size w wr) (fun _ wr => s.size - wr.iterPos w.heap.size)
  case atStart => exact ⟨0, by omega, rfl, Lib.hid rfl, by first | exact World.iter_heap w s 0 | simp, (Below.refl _ _).alloc (Nat.le_refl _) _⟩
  case round =>
    obtain ⟨pos, hpos, rfl, hL, hit, hbe⟩ := hrel
    have hH := highN_le hL.out
    obtain ⟨o, ho⟩ : ∃ o, highN ((bts s).take pos) = o := ⟨_, rfl⟩
    rw [ho] at hH ⊢
    have hoH := Lib.hid ho
    clear ho
    by_cases hp : pos < s.size
    · obtain ⟨b, hb⟩ : ∃ b, s[pos]'hp = b := ⟨_, rfl⟩
      have hbt := bts_at s pos hp
      rw [hb] at hbt
      have hbt := Lib.hid hbt
      have hb256 : b.toNat < 256 := UInt8.toNat_lt _
      by_cases ha : b.toNat < 128
      · have hnx : ∀ ty, (Instr.next (.pointer (some ⟨w.heap.size, 0, none⟩)) true ty).run Try.prog wr = .ok (.tuple #[.bool true, .int .i64 pos, .int .i32 b.toNat]) (wr.iterAt w.heap.size s (pos + 1)) := fun ty => by
          rw [Lib.run_next_ascii_at wr w.heap.size s pos ty hit hp (by rw [hb]; exact ha), hb]
        have hit2 := Lib.iterAt_heap wr w.heap.size s pos (pos + 1) hit
        have hbe2 := Lib.below_iterAt hbe (k := w.heap.size) (Nat.le_refl _) s (pos + 1)
        generalize wr.iterAt w.heap.size s (pos + 1) = wn at hnx hit2 hbe2
        by_cases hl : 97 ≤ b.toNat ∧ b.toNat ≤ 100
        · have hib := Lib.hid (indexByte_letter hl.1 hl.2)
          have hk1 : (0 : Int) ≤ b.toNat - 97 := by omega
          have hL2 := Lib.hid (letters_take hL.out hbt.out hl.1 (by omega))
          have hN2 : highN ((bts s).take (pos + 1)) = max o (b.toNat - 96) := by rw [List.take_add_one, hbt.out, Option.toList_some, highN_snoc, hoH.out]
          obtain ⟨kk, hkk⟩ : ∃ kk : Nat, (b.toNat : Int) - 97 = kk := ⟨b.toNat - 97, by omega⟩
          have hkk4 : kk < 4 := by omega
          by_cases hmx : o < kk + 1
          · have hmi : (o : Int) < (kk : Int) + 1 := by omega
            have hN3 := Lib.hid (show highN ((bts s).take (pos + 1)) = kk + 1 by omega)
            clear hN2 hk1
            go_wp2_with (first
              | (go_at_call 82; refine (Try.strings_IndexRune_ascii _ _ _ (by omega) (by omega)).mono ?_; rintro e w2 ⟨rfl, rfl⟩; rw [hib.out, hkk]))
            go_roundw
            case rel => exact ⟨pos + 1, by omega, by rw [hN3.out]; first | go_num | (congr 1; omega), hL2, hit2, hbe2⟩
            case measure => simp only [World.iterPos, hit2, hit]; omega
          · have hmi : ¬ (o : Int) < (kk : Int) + 1 := by omega
            have hN3 := Lib.hid (show highN ((bts s).take (pos + 1)) = o by omega)
            clear hN2 hk1
            go_wp2_with (first
              | (go_at_call 82; refine (Try.strings_IndexRune_ascii _ _ _ (by omega) (by omega)).mono ?_; rintro e w2 ⟨rfl, rfl⟩; rw [hib.out, hkk]))
            go_roundw
            case rel => exact ⟨pos + 1, by omega, by rw [hN3.out]; first | rfl | (congr 1; omega), hL2, hit2, hbe2⟩
            case measure => simp only [World.iterPos, hit2, hit]; omega
        · have hib := Lib.hid (indexByte_none hb256 hl)
          have hR := Lib.hid (show highS (bts s) = -1 by rw [highS, if_neg (by rw [letters_no hbt.out (n := 4) (by omega)]; decide)])
          go_wp2_with (first
            | (go_at_call 82; refine (Try.strings_IndexRune_ascii _ _ _ (by omega) (by omega)).mono ?_; rintro e w2 ⟨rfl, rfl⟩; rw [hib.out]))
          go_ret
          exact ⟨by rw [hR.out]; rfl, hbe2⟩
      · have hr := decode_high s pos hp (by rw [hb]; omega)
        have hr2 := decode_le s pos
        have hnx : ∀ ty, (Instr.next (.pointer (some ⟨w.heap.size, 0, none⟩)) true ty).run Try.prog wr = _ := fun ty => Lib.run_next_any_at wr w.heap.size s pos ty hit hp
        have hbe2 := Lib.below_iterAt hbe (k := w.heap.size) (Nat.le_refl _) s (pos + (Utf8.decode s pos).2)
        have hR := Lib.hid (show highS (bts s) = -1 by rw [highS, if_neg (by rw [letters_no hbt.out (n := 4) (by omega)]; decide)])
        obtain ⟨r, hre⟩ : ∃ r, (Utf8.decode s pos).1 = r := ⟨_, rfl⟩
        obtain ⟨q, hqe⟩ : ∃ q, (Utf8.decode s pos).2 = q := ⟨_, rfl⟩
        rw [hre] at hr hr2 hnx
        rw [hqe] at hnx hbe2
        generalize wr.iterAt w.heap.size s (pos + q) = wn at hnx hbe2
        go_wp2_with (first
          | (go_at_call 82; refine (indexRune_high r hr.1 hr2 _).mono ?_; rintro e w2 ⟨rfl, hb2⟩))
        go_ret
        exact ⟨by rw [hR.out]; rfl, hbe2.trans (hb2.mono hbe2.size)⟩
    · have hnx : ∀ ty, (Instr.next (.pointer (some ⟨w.heap.size, 0, none⟩)) true ty).run Try.prog wr = _ := fun ty => Lib.run_next_end_at wr w.heap.size s pos ty hit hp
      have hft : (bts s).take pos = bts s := List.take_of_length_le (by rw [bts_len]; omega)
      rw [hft] at hL hoH
      have hR := Lib.hid (show highS (bts s) = (o : Int) by rw [highS, if_pos hL.out, hoH.out])
      clear hft
      go_wp2_with (fail)
      go_ret
      exact ⟨by rw [hR.out]; rfl, hbe⟩
end Go.Proofs.Ytdaaiockkbolbaa
