/- The texts DuC to DuD, joined by joinlist.py: their statements say what each proves. -/
import Derived.Test.YtbgakdpbglpfaaaGreatDoorDuB
-- the text DuC
namespace Go.Proofs.YtbgakdpbglpfaaaGreatDoor
open Go.RowKit
namespace Dr
set_option linter.unusedSimpArgs false
def drawersL : List ByteArray := [⟨#[111, 115, 116, 114, 105, 99, 104]⟩, ⟨#[104, 101, 114, 111, 110]⟩]
def ordersL : List ByteArray := [⟨#[97, 100, 97]⟩, ⟨#[98, 101, 97]⟩, ⟨#[99, 105, 97]⟩, ⟨#[100, 101, 97]⟩, ⟨#[101, 118, 97]⟩]
def oneP (l : List ByteArray) (x : Nat) : ByteArray := l.getD (x % l.length) ⟨#[]⟩
section
variable {w w' w0 : World} {ga gb : Nat} {A B : Book}
set_option maxRecDepth 100000 in
theorem drawers_list (w : World) : Calls Tryz.prog 40 #[] w fun e w' => ∃ ad, e = .returned (.slice (some ad) 2 2) ∧ RStrs w' w'.heap.size (some ad) 2 drawersL ∧ Below w.heap.size w w' := by
  go_enter Tryz.func40, Tryz.ntmps40
  go_wp2_with (go_at_call 53; (with_reducible refine (list_same _ _).mono ?_); rintro e w3 ⟨rfl, hw3⟩; replace hw3 := hw3.symm; subst hw3)
  go_ret
  exact ⟨_, rfl, rstrs_blk (Blk.new w 9 (strsV drawersL).toArray) rfl, (Below.refl _ _).alloc (Nat.le_refl _) _⟩
set_option maxRecDepth 100000 in
theorem orders_list (w : World) : Calls Tryz.prog 52 #[] w fun e w' => ∃ ad, e = .returned (.slice (some ad) 5 5) ∧ RStrs w' w'.heap.size (some ad) 5 ordersL ∧ Below w.heap.size w w' := by
  go_enter Tryz.func52, Tryz.ntmps52
  go_wp2_with (go_at_call 53; (with_reducible refine (list_same _ _).mono ?_); rintro e w3 ⟨rfl, hw3⟩; replace hw3 := hw3.symm; subst hw3)
  go_ret
  exact ⟨_, rfl, rstrs_blk (Blk.new w 9 (strsV ordersL).toArray) rfl, (Below.refl _ _).alloc (Nat.le_refl _) _⟩
set_option maxRecDepth 100000 in
theorem one_any (P : Option Addr) (n c : Nat) (l : List ByteArray) (hr : RStrs w w.heap.size P n l) (hn : 0 < n) (hm : n ≤ 1000) (x : Nat) (hx : x < 256) :
    Calls Tryz.prog 39 #[.slice P n c, .int .u8 (x : Int)] w fun e w' => e = .returned (.string (oneP l x)) ∧ w' = w := by
  have hl := hr.len
  obtain ⟨k, hk⟩ : ∃ k, x % n = k := ⟨_, rfl⟩
  have hkn : k < n := by rw [← hk]; exact Nat.mod_lt _ hn
  have hmod : Int.tmod (x : Int) (n : Int) = (k : Int) := by rw [← hk]; exact (Int.ofNat_tmod x n).symm
  obtain ⟨ad, s, rfl, _, hc, hs⟩ := hr.at_ hkn
  have hS : Hid (oneP l x = s) := by
    unfold oneP
    rw [Hid, hl, hk, List.getD_eq_getElem?_getD, hs.out]
    rfl
  have h1 : (0 : Int) ≤ x := by omega
  have h2 : (x : Int) < 256 := by omega
  have h3 : (n : Int) ≠ 0 := by omega
  have h4 : (0 : Int) ≤ k := by omega
  have h5 : (k : Int) < n := by omega
  clear hk hkn hl hs hr hn
  go_enter Tryz.func39, Tryz.ntmps39
  go_wp2_with (fail)
  go_ret
  exact ⟨by rw [hS.out]; rfl, rfl⟩
set_option maxRecDepth 100000 in
set_option maxHeartbeats 2000000 in
theorem book_any (T : Tabs w) (P : Option Addr) (n c : Nat) (ls : List ByteArray) (hn : n ≤ 1000) (hr : RStrs w w.heap.size P n ls) :
    Calls Tryz.prog 36 #[.slice P n c] w fun e w' => ∃ gb, e = .returned (.pointer (some ⟨gb, 0, none⟩)) ∧ Bk w w' gb (bookP ls) := by
  have HN := Lib.hid (bk_new (Below.refl w.heap.size w))
  have HL := Lib.hid hr.len
  have HT := Lib.hid T
  go_enter Tryz.func36, Tryz.ntmps36
  go_wp2_with (go_at_call 15; (with_reducible refine HN.out.mono ?_); rintro e w1 ⟨gb, rfl, hB1, _⟩)
  go_loopw [9] (fun v wr => ∃ i : Nat, i ≤ n ∧ v = .int .i64 i ∧ Bk w wr gb (bookP (ls.take i))) (fun v _ => n - (intOf v).toNat)
  case atStart => exact ⟨0, Nat.zero_le _, rfl, hB1⟩
  case round =>
    clear hB1
    obtain ⟨i, hi, rfl, hB⟩ := hrel
    have hrs := hr.later (Nat.le_refl _) hB.below
    by_cases hlt : i < n
    · have hlti : (i : Int) < n := by omega
      have hi0 : (0 : Int) ≤ i := by omega
      obtain ⟨ad, l, rfl, _, hcl, hl⟩ := hrs.at_ hlt
      have hNX : Hid (bookP (ls.take (i + 1)) = bookS (bookP (ls.take i)) l) := by
        rw [Hid, List.take_add_one, hl.out, Option.toList_some, bookP_snoc]
      obtain ⟨b, hp⟩ : ∃ q, bookP (ls.take i) = q := ⟨_, rfl⟩
      rw [hp] at hB hNX
      clear hp
      by_cases h0 : byts l = [117, 110, 100, 111]
      · have e0 := lit_yes h0
        have f0 := lit_eq h0
        have hS : bookS b l = b.undo.2 := by unfold bookS; rw [if_pos]; exact (bstr_byts l).symm.trans (by rw [h0]; rfl)
        obtain ⟨⟨EU, U⟩, hU⟩ : ∃ q, b.undo = q := ⟨_, rfl⟩
        rw [hS, hU] at hNX
        have HU := Lib.hid (bk_undo HT.out hB hU)
        clear hU hS h0 hl
        go_wp2_with (go_at_call 17; (with_reducible refine HU.out.mono ?_); rintro e w3 ⟨rfl, hB3⟩)
        go_roundw
        case rel => exact ⟨i + 1, by omega, by go_num, by rw [hNX.out]; exact hB3⟩
        case measure => simp only [intOf]; omega
      · have e0 := lit_no h0
        have f0 := lit_ne h0
        have hS : bookS b l = b.done l := by unfold bookS; rw [if_neg]; rintro rfl; exact h0 rfl
        rw [hS] at hNX
        have HD := Lib.hid (bk_do HT.out hB l rfl rfl)
        obtain ⟨E, hE⟩ : ∃ q, b.would l = q := ⟨_, rfl⟩
        rw [hE] at HD
        clear hE hS h0 hl
        go_wp2_with (go_at_call 20; (with_reducible refine HD.out.mono ?_); rintro e w3 ⟨rfl, hB3⟩)
        go_roundw
        case rel => exact ⟨i + 1, by omega, by go_num, by rw [hNX.out]; exact hB3⟩
        case measure => simp only [intOf]; omega
    · obtain rfl : i = n := by omega
      have hlti : ¬ (i : Int) < i := by omega
      rw [List.take_of_length_le (by have := HL.out; omega)] at hB
      go_wp2_with (fail)
      go_ret
      exact ⟨_, rfl, hB⟩
/-- rows of numbers, of names that are compared, both own -/
theorem same_two {v u : Value} {xs : List Nat} (h : OwnN w v xs) (h' : OwnN w u xs) : Calls Tryz.prog 46 #[v, u] w fun e w' => e = .returned (.bool true) ∧ Below w.heap.size w w' := by
  obtain ⟨P, c, rfl, h1, h2, hr, _⟩ := ownN_form h
  obtain ⟨Q, d, rfl, h3, h4, hs, _⟩ := ownN_form h'
  refine (same_any P Q xs.length xs.length c d (natI xs) (natI xs) _ _ hr hs (Nat.le_trans h1 h2) (Nat.le_trans h1 h2)).mono ?_
  rintro e w' ⟨rfl, q, rfl⟩
  exact ⟨by rw [decide_eq_true rfl], below_drewN (Below.refl _ _) q⟩
theorem texts_two {v u : Value} {xs : List ByteArray} (h : OwnT w v xs) (h' : OwnT w u xs) : Calls Tryz.prog 22 #[v, u] w fun e w' => e = .returned (.bool true) ∧ Below w.heap.size w w' := by
  obtain ⟨P, c, rfl, h1, h2, hr, _⟩ := ownS_form h
  obtain ⟨Q, d, rfl, h3, h4, hs, _⟩ := ownS_form h'
  refine (texts_any P Q xs.length xs.length c d xs xs _ _ hr hs (Nat.le_trans h1 h2) (Nat.le_trans h1 h2)).mono ?_
  rintro e w' ⟨rfl, q, rfl⟩
  exact ⟨by rw [decide_eq_true rfl], below_drewN (Below.refl _ _) q⟩
end
end Dr
end Go.Proofs.YtbgakdpbglpfaaaGreatDoor
-- the text DuD
namespace Go.Proofs.YtbgakdpbglpfaaaGreatDoor
open Go.RowKit
namespace Dr
set_option linter.unusedSimpArgs false
/-- two books that are the same, and rows that were asked for -/
structure Al (wb w0 w : World) (ga gb : Nat) (A : Book) (ns : List (Value × List Nat)) (ts : List (Value × List ByteArray)) : Prop where
  a : Bk w0 w ga A
  b : Bk w0 w gb A
  be : Below wb.heap.size wb w
  n : ∀ p ∈ ns, OwnN w p.1 p.2
  t : ∀ p ∈ ts, OwnT w p.1 p.2
section
variable {wb w0 w w' : World} {ga gb : Nat} {A : Book} {ns : List (Value × List Nat)} {ts : List (Value × List ByteArray)}
theorem Al.callee (h : Al wb w0 w ga gb A ns ts) (hb : Below w.heap.size w w') : Al wb w0 w' ga gb A ns ts :=
  ⟨h.a.callee hb, h.b.callee hb, h.be.trans (hb.mono h.be.size), fun p hp => OwnI.callee (h.n p hp) hb, fun p hp => OwnS.callee (h.t p hp) hb⟩
theorem Al.addN (h : Al wb w0 w ga gb A ns ts) {v : Value} {xs : List Nat} (hv : OwnN w v xs) : Al wb w0 w ga gb A ((v, xs) :: ns) ts :=
  ⟨h.a, h.b, h.be, fun p hp => by
    rcases List.mem_cons.1 hp with rfl | hp
    · exact hv
    · exact h.n p hp, h.t⟩
theorem Al.addT (h : Al wb w0 w ga gb A ns ts) {v : Value} {xs : List ByteArray} (hv : OwnT w v xs) : Al wb w0 w ga gb A ns ((v, xs) :: ts) :=
  ⟨h.a, h.b, h.be, h.n, fun p hp => by
    rcases List.mem_cons.1 hp with rfl | hp
    · exact hv
    · exact h.t p hp⟩
theorem Al.clean (h : Al wb w0 w ga gb A ns ts) : Al wb w0 w ga gb A [] [] := ⟨h.a, h.b, h.be, (fun p hp => by cases hp), (fun p hp => by cases hp)⟩
theorem Al.start (h : Al wb w0 w ga gb A ns ts) : Al w w0 w ga gb A [] [] := ⟨h.a, h.b, Below.refl _ _, (fun p hp => by cases hp), (fun p hp => by cases hp)⟩
theorem bk_feathers5 (h : Bk w0 w ga A) (d : ByteArray) {x1 x2 x3 x4 : Nat} {E : Int} (h1 : A.feathers d = ((x1, x2, x3, x4), E)) : Calls Tryz.prog 34 #[.pointer (some ⟨ga, 0, none⟩), .string d] w fun e w' =>
    e = .returned (.tuple #[.int .i64 (x1 : Int), .int .i64 (x2 : Int), .int .i64 (x3 : Int), .int .i64 (x4 : Int), .int .i64 E]) ∧ Below w.heap.size w w' :=
  (bk_feathers h d h1).mono fun _ _ hp => ⟨hp.1, hp.2.2⟩
set_option maxRecDepth 100000 in
set_option maxHeartbeats 4000000 in
theorem alike_books (T : Tabs w0) (ha : Bk w0 w ga A) (hb : Bk w0 w gb A) :
    Calls Tryz.prog 38 #[.pointer (some ⟨ga, 0, none⟩), .pointer (some ⟨gb, 0, none⟩)] w fun e w' => e = .returned (.bool true) ∧ Below w.heap.size w w' := by
  have HT := Lib.hid T
  obtain ⟨rf, hrf⟩ : ∃ q, bstr (fileL A.lines) = q := ⟨_, rfl⟩
  obtain ⟨ll, hll⟩ : ∃ q, A.lines = q := ⟨_, rfl⟩
  obtain ⟨dl, hdl⟩ : ∃ q, A.house.chests.map (·.1) = q := ⟨_, rfl⟩
  have HF := Lib.hid hrf
  have HL := Lib.hid hll
  have HD := Lib.hid hdl
  have hfe : (rf.toList == rf.toList) = true := by rw [str_eq]; exact decide_eq_true rfl
  have hP : Al w w0 w ga gb A [] [] := ⟨ha, hb, Below.refl _ _, (fun p hp => by cases hp), (fun p hp => by cases hp)⟩
  clear hrf hll hdl T ha hb
  go_enter Tryz.func38, Tryz.ntmps38
  go_wp2_with (first
    | (go_at_call 25; (with_reducible refine (bk_file HT.out hP.a HF.out).mono ?_); rintro e w3 ⟨rfl, _, hb3⟩; replace hP := hP.callee hb3; clear hb3)
    | (go_at_call 25; (with_reducible refine (bk_file HT.out hP.b HF.out).mono ?_); rintro e w3 ⟨rfl, _, hb3⟩; replace hP := hP.callee hb3; clear hb3)
    | (go_at_call 23; (with_reducible refine (bk_lines hP.a HL.out).mono ?_); rintro e w3 ⟨v1, rfl, hv, _, hb3⟩; replace hP := (hP.callee hb3).addT hv; clear hb3 hv)
    | (go_at_call 23; (with_reducible refine (bk_lines hP.b HL.out).mono ?_); rintro e w3 ⟨v2, rfl, hv, _, hb3⟩; replace hP := (hP.callee hb3).addT hv; clear hb3 hv)
    | (go_at_call 35; (with_reducible refine (bk_drawers hP.a HD.out).mono ?_); rintro e w3 ⟨v3, rfl, hv, _, hb3⟩; replace hP := (hP.callee hb3).addT hv; clear hb3 hv)
    | (go_at_call 35; (with_reducible refine (bk_drawers hP.b HD.out).mono ?_); rintro e w3 ⟨v4, rfl, hv, _, hb3⟩; replace hP := (hP.callee hb3).addT hv; clear hb3 hv)
    | (go_at_call 22; (with_reducible refine (texts_two (hP.t (v1, ll) (by simp)) (hP.t (v2, ll) (by simp))).mono ?_); rintro e w3 ⟨rfl, hb3⟩; replace hP := hP.callee hb3; clear hb3)
    | (go_at_call 22; (with_reducible refine (texts_two (hP.t (v3, dl) (by simp)) (hP.t (v4, dl) (by simp))).mono ?_); rintro e w3 ⟨rfl, hb3⟩; replace hP := hP.callee hb3; clear hb3)
    | (go_at_call 40; (with_reducible refine (drawers_list _).mono ?_); rintro e w4 ⟨ad4, rfl, hr4, hb4⟩; replace hP := hP.callee hb4; clear hb4))
  have hP0 := Lib.hid hP.be
  go_loopw [66] (fun v wr => ∃ i : Nat, i ≤ 2 ∧ v = .int .i64 i ∧ Al w4 w0 wr ga gb A [] []) (fun v _ => 2 - (intOf v).toNat)
  case atStart => exact ⟨0, Nat.zero_le _, rfl, hP.start⟩
  case round =>
    clear hP
    obtain ⟨i, hi, rfl, hP⟩ := hrel
    by_cases hlt : i < 2
    · have hlti : (i : Int) < 2 := by omega
      have hi0 : (0 : Int) ≤ i := by omega
      obtain ⟨ad', x, he, _, hcx, _⟩ := (hr4.later (Nat.le_refl _) hP.be).at_ hlt
      injection he with he
      subst he
      obtain ⟨⟨xs, Es⟩, hS⟩ : ∃ q, A.ask x [] (·.sizes) = q := ⟨_, rfl⟩
      obtain ⟨⟨xk, Ek⟩, hK⟩ : ∃ q, A.ask x [] (·.stock) = q := ⟨_, rfl⟩
      obtain ⟨⟨xo, Eo⟩, hO⟩ : ∃ q, A.ask x [] (·.out) = q := ⟨_, rfl⟩
      obtain ⟨⟨⟨x1, x2, x3, x4⟩, Ef⟩, hFe⟩ : ∃ q, A.feathers x = q := ⟨_, rfl⟩
      have HS := Lib.hid hS
      have HK := Lib.hid hK
      have HO := Lib.hid hO
      have HX := Lib.hid hFe
      clear hS hK hO hFe
      go_wp2_with (first
        | (go_at_call 28; (with_reducible refine (bk_sizes hP.a x HS.out).mono ?_); rintro e w3 ⟨v1, rfl, hv, _, hb3⟩; replace hP := (hP.callee hb3).addN hv; clear hb3 hv)
        | (go_at_call 28; (with_reducible refine (bk_sizes hP.b x HS.out).mono ?_); rintro e w3 ⟨v2, rfl, hv, _, hb3⟩; replace hP := (hP.callee hb3).addN hv; clear hb3 hv)
        | (go_at_call 29; (with_reducible refine (bk_stock hP.a x HK.out).mono ?_); rintro e w3 ⟨v3, rfl, hv, _, hb3⟩; replace hP := (hP.callee hb3).addN hv; clear hb3 hv)
        | (go_at_call 29; (with_reducible refine (bk_stock hP.b x HK.out).mono ?_); rintro e w3 ⟨v4, rfl, hv, _, hb3⟩; replace hP := (hP.callee hb3).addN hv; clear hb3 hv)
        | (go_at_call 32; (with_reducible refine (bk_out hP.a x HO.out).mono ?_); rintro e w3 ⟨v5, rfl, hv, _, hb3⟩; replace hP := (hP.callee hb3).addT hv; clear hb3 hv)
        | (go_at_call 32; (with_reducible refine (bk_out hP.b x HO.out).mono ?_); rintro e w3 ⟨v6, rfl, hv, _, hb3⟩; replace hP := (hP.callee hb3).addT hv; clear hb3 hv)
        | (go_at_call 46; (with_reducible refine (same_two (hP.n (v1, xs) (by simp)) (hP.n (v2, xs) (by simp))).mono ?_); rintro e w3 ⟨rfl, hb3⟩; replace hP := hP.callee hb3; clear hb3)
        | (go_at_call 46; (with_reducible refine (same_two (hP.n (v3, xk) (by simp)) (hP.n (v4, xk) (by simp))).mono ?_); rintro e w3 ⟨rfl, hb3⟩; replace hP := hP.callee hb3; clear hb3)
        | (go_at_call 22; (with_reducible refine (texts_two (hP.t (v5, xo) (by simp)) (hP.t (v6, xo) (by simp))).mono ?_); rintro e w3 ⟨rfl, hb3⟩; replace hP := hP.callee hb3; clear hb3)
        | (go_at_call 34; (with_reducible refine (bk_feathers5 hP.a x HX.out).mono ?_); rintro e w3 ⟨rfl, hb3⟩; replace hP := hP.callee hb3; clear hb3)
        | (go_at_call 34; (with_reducible refine (bk_feathers5 hP.b x HX.out).mono ?_); rintro e w3 ⟨rfl, hb3⟩; replace hP := hP.callee hb3; clear hb3))
      go_roundw
      case rel => exact ⟨i + 1, by omega, by go_num, hP.clean⟩
      case measure => simp only [intOf]; omega
    · obtain rfl : i = 2 := by omega
      go_wp2_with (go_at_call 52; (with_reducible refine (orders_list _).mono ?_); rintro e w5 ⟨ad5, rfl, hr5, hb5⟩; replace hP := hP.callee hb5; clear hb5)
      have hP1 := Lib.hid (hP0.out.trans (hP.be.mono hP0.out.size))
      go_loopw [181] (fun v wr => ∃ i : Nat, i ≤ 5 ∧ v = .int .i64 i ∧ Al w5 w0 wr ga gb A [] []) (fun v _ => 5 - (intOf v).toNat)
      case atStart => exact ⟨0, Nat.zero_le _, rfl, hP.start⟩
      case round =>
        clear hP
        obtain ⟨i, hi, rfl, hP⟩ := hrel
        by_cases hlt : i < 5
        · have hlti : (i : Int) < 5 := by omega
          have hi0 : (0 : Int) ≤ i := by omega
          obtain ⟨ad', x, he, _, hcx, _⟩ := (hr5.later (Nat.le_refl _) hP.be).at_ hlt
          injection he with he
          subst he
          obtain ⟨⟨xs, Es⟩, hS⟩ : ∃ q, A.filled x = q := ⟨_, rfl⟩
          have HS := Lib.hid hS
          clear hS
          go_wp2_with (first
            | (go_at_call 30; (with_reducible refine (bk_filled hP.a x HS.out).mono ?_); rintro e w3 ⟨v1, rfl, hv, _, hb3⟩; replace hP := (hP.callee hb3).addN hv; clear hb3 hv)
            | (go_at_call 30; (with_reducible refine (bk_filled hP.b x HS.out).mono ?_); rintro e w3 ⟨v2, rfl, hv, _, hb3⟩; replace hP := (hP.callee hb3).addN hv; clear hb3 hv)
            | (go_at_call 46; (with_reducible refine (same_two (hP.n (v1, xs) (by simp)) (hP.n (v2, xs) (by simp))).mono ?_); rintro e w3 ⟨rfl, hb3⟩; replace hP := hP.callee hb3; clear hb3))
          go_roundw
          case rel => exact ⟨i + 1, by omega, by go_num, hP.clean⟩
          case measure => simp only [intOf]; omega
        · obtain rfl : i = 5 := by omega
          go_wp2_with (fail)
          go_ret
          exact ⟨rfl, hP1.out.trans (hP.be.mono hP1.out.size)⟩
end
end Dr
end Go.Proofs.YtbgakdpbglpfaaaGreatDoor
