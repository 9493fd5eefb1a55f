/- The law's names, its book of lines, two books that are alike. -/
import Derived.Test.YtbgakdpbglpfaaaGreatDoorDuA
import Derived.Test.YtbgakdpbglpfaaaGreatDoorDuB
namespace Go.Proofs.YtbgakdpbglpfaaaGreatDoor
open Go.RowKit
namespace Dr
set_option linter.unusedSimpArgs false
def drawersL : List ByteArray := [⟨#[111, 115, 116, 114, 105, 99, 104]⟩, ⟨#[104, 101, 114, 111, 110]⟩]
def ordersL : List ByteArray := [⟨#[97, 100, 97]⟩, ⟨#[98, 101, 97]⟩, ⟨#[99, 105, 97]⟩, ⟨#[100, 101, 97]⟩, ⟨#[101, 118, 97]⟩]
def oneP (l : List ByteArray) (x : Nat) : ByteArray := l.getD (x % l.length) ⟨#[]⟩
section
variable {w w' w0 : World} {ga gb : Nat} {A B : Book}
set_option maxRecDepth 100000 in
theorem drawers_list (w : World) : Calls Tryz.prog 40 #[] w fun e w' => ∃ ad, e = .returned (.slice (some ad) 2 2) ∧ RStrs w' w'.heap.size (some ad) 2 drawersL ∧ Below w.heap.size w w' := by
  go_enter Tryz.func40, Tryz.ntmps40
  go_wp2_with (go_at_call 53; (with_reducible refine (list_same _ _).mono ?_); rintro e w3 ⟨rfl, hw3⟩; replace hw3 := hw3.symm; subst hw3)
  go_ret
  exact ⟨_, rfl, rstrs_blk (Blk.new w 9 (strsV drawersL).toArray) rfl, (Below.refl _ _).alloc (Nat.le_refl _) _⟩
set_option maxRecDepth 100000 in
theorem orders_list (w : World) : Calls Tryz.prog 52 #[] w fun e w' => ∃ ad, e = .returned (.slice (some ad) 5 5) ∧ RStrs w' w'.heap.size (some ad) 5 ordersL ∧ Below w.heap.size w w' := by
  go_enter Tryz.func52, Tryz.ntmps52
  go_wp2_with (go_at_call 53; (with_reducible refine (list_same _ _).mono ?_); rintro e w3 ⟨rfl, hw3⟩; replace hw3 := hw3.symm; subst hw3)
  go_ret
  exact ⟨_, rfl, rstrs_blk (Blk.new w 9 (strsV ordersL).toArray) rfl, (Below.refl _ _).alloc (Nat.le_refl _) _⟩
set_option maxRecDepth 100000 in
theorem one_any (P : Option Addr) (n c : Nat) (l : List ByteArray) (hr : RStrs w w.heap.size P n l) (hn : 0 < n) (hm : n ≤ 1000) (x : Nat) (hx : x < 256) :
    Calls Tryz.prog 39 #[.slice P n c, .int .u8 (x : Int)] w fun e w' => e = .returned (.string (oneP l x)) ∧ w' = w := by
  have hl := hr.len
  obtain ⟨k, hk⟩ : ∃ k, x % n = k := ⟨_, rfl⟩
  have hkn : k < n := by rw [← hk]; exact Nat.mod_lt _ hn
  have hmod : Int.tmod (x : Int) (n : Int) = (k : Int) := by rw [← hk]; exact (Int.ofNat_tmod x n).symm
  obtain ⟨ad, s, rfl, _, hc, hs⟩ := hr.at_ hkn
  have hS : Hid (oneP l x = s) := by
    unfold oneP
    rw [Hid, hl, hk, List.getD_eq_getElem?_getD, hs.out]
    rfl
  have h1 : (0 : Int) ≤ x := by omega
  have h2 : (x : Int) < 256 := by omega
  have h3 : (n : Int) ≠ 0 := by omega
  have h4 : (0 : Int) ≤ k := by omega
  have h5 : (k : Int) < n := by omega
  clear hk hkn hl hs hr hn
  go_enter Tryz.func39, Tryz.ntmps39
  go_wp2_with (fail)
  go_ret
  exact ⟨by rw [hS.out]; rfl, rfl⟩
set_option maxRecDepth 100000 in
set_option maxHeartbeats 2000000 in
theorem book_any (T : Tabs w) (P : Option Addr) (n c : Nat) (ls : List ByteArray) (hn : n ≤ 1000) (hr : RStrs w w.heap.size P n ls) :
    Calls Tryz.prog 36 #[.slice P n c] w fun e w' => ∃ gb, e = .returned (.pointer (some ⟨gb, 0, none⟩)) ∧ Bk w w' gb (bookP ls) := by
  have HN := Lib.hid (bk_new (Below.refl w.heap.size w))
  have HL := Lib.hid hr.len
  have HT := Lib.hid T
  go_enter Tryz.func36, Tryz.ntmps36
  go_wp2_with (go_at_call 15; (with_reducible refine HN.out.mono ?_); rintro e w1 ⟨gb, rfl, hB1, _⟩)
  go_loopw [9] (fun v wr => ∃ i : Nat, i ≤ n ∧ v = .int .i64 i ∧ Bk w wr gb (bookP (ls.take i))) (fun v _ => n - (intOf v).toNat)
  case atStart => exact ⟨0, Nat.zero_le _, rfl, hB1⟩
  case round =>
    clear hB1
    obtain ⟨i, hi, rfl, hB⟩ := hrel
    have hrs := hr.later (Nat.le_refl _) hB.below
    by_cases hlt : i < n
    · have hlti : (i : Int) < n := by omega
      have hi0 : (0 : Int) ≤ i := by omega
      obtain ⟨ad, l, rfl, _, hcl, hl⟩ := hrs.at_ hlt
      have hNX : Hid (bookP (ls.take (i + 1)) = bookS (bookP (ls.take i)) l) := by
        rw [Hid, List.take_add_one, hl.out, Option.toList_some, bookP_snoc]
      obtain ⟨b, hp⟩ : ∃ q, bookP (ls.take i) = q := ⟨_, rfl⟩
      rw [hp] at hB hNX
      clear hp
      by_cases h0 : byts l = [117, 110, 100, 111]
      · have e0 := lit_yes h0
        have f0 := lit_eq h0
        have hS : bookS b l = b.undo.2 := by unfold bookS; rw [if_pos]; exact (bstr_byts l).symm.trans (by rw [h0]; rfl)
        obtain ⟨⟨EU, U⟩, hU⟩ : ∃ q, b.undo = q := ⟨_, rfl⟩
        rw [hS, hU] at hNX
        have HU := Lib.hid (bk_undo HT.out hB hU)
        clear hU hS h0 hl
        go_wp2_with (go_at_call 17; (with_reducible refine HU.out.mono ?_); rintro e w3 ⟨rfl, hB3⟩)
        go_roundw
        case rel => exact ⟨i + 1, by omega, by go_num, by rw [hNX.out]; exact hB3⟩
        case measure => simp only [intOf]; omega
      · have e0 := lit_no h0
        have f0 := lit_ne h0
        have hS : bookS b l = b.done l := by unfold bookS; rw [if_neg]; rintro rfl; exact h0 rfl
        rw [hS] at hNX
        have HD := Lib.hid (bk_do HT.out hB l rfl rfl)
        obtain ⟨E, hE⟩ : ∃ q, b.would l = q := ⟨_, rfl⟩
        rw [hE] at HD
        clear hE hS h0 hl
        go_wp2_with (go_at_call 20; (with_reducible refine HD.out.mono ?_); rintro e w3 ⟨rfl, hB3⟩)
        go_roundw
        case rel => exact ⟨i + 1, by omega, by go_num, by rw [hNX.out]; exact hB3⟩
        case measure => simp only [intOf]; omega
    · obtain rfl : i = n := by omega
      have hlti : ¬ (i : Int) < i := by omega
      rw [List.take_of_length_le (by have := HL.out; omega)] at hB
      go_wp2_with (fail)
      go_ret
      exact ⟨_, rfl, hB⟩
/-- rows of numbers, of names that are compared, both own -/
theorem same_two {v u : Value} {xs : List Nat} (h : OwnN w v xs) (h' : OwnN w u xs) : Calls Tryz.prog 46 #[v, u] w fun e w' => e = .returned (.bool true) ∧ Below w.heap.size w w' := by
  obtain ⟨P, c, rfl, h1, h2, hr, _⟩ := ownN_form h
  obtain ⟨Q, d, rfl, h3, h4, hs, _⟩ := ownN_form h'
  refine (same_any P Q xs.length xs.length c d (natI xs) (natI xs) _ _ hr hs (Nat.le_trans h1 h2) (Nat.le_trans h1 h2)).mono ?_
  rintro e w' ⟨rfl, q, rfl⟩
  exact ⟨by rw [decide_eq_true rfl], below_drewN (Below.refl _ _) q⟩
theorem texts_two {v u : Value} {xs : List ByteArray} (h : OwnT w v xs) (h' : OwnT w u xs) : Calls Tryz.prog 22 #[v, u] w fun e w' => e = .returned (.bool true) ∧ Below w.heap.size w w' := by
  obtain ⟨P, c, rfl, h1, h2, hr, _⟩ := ownS_form h
  obtain ⟨Q, d, rfl, h3, h4, hs, _⟩ := ownS_form h'
  refine (texts_any P Q xs.length xs.length c d xs xs _ _ hr hs (Nat.le_trans h1 h2) (Nat.le_trans h1 h2)).mono ?_
  rintro e w' ⟨rfl, q, rfl⟩
  exact ⟨by rw [decide_eq_true rfl], below_drewN (Below.refl _ _) q⟩
end
end Dr
end Go.Proofs.YtbgakdpbglpfaaaGreatDoor
