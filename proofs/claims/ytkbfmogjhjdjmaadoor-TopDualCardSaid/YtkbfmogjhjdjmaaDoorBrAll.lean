/- The contracts of branch: trees, their wood, and what is asked of it (the texts BrA to BrO, joined by joinbr.py). -/
import Derived.Test.YtkbfmogjhjdjmaaDoorPkAQ
import Derived.Test.YtkbfmogjhjdjmaaDoorShelf
import Derived.Test.YtkbfmogjhjdjmaaDoorBits
import Derived.Test.YtkbfmogjhjdjmaaDoorRowK
import Derived.StillTailTactics
import Derived.Deep.OwnRows
import Derived.Deep.RegionHeld3
import Derived.BigQuiet
import Derived.ArgAppend
import Derived.Lib.SliceRun
import Derived.Shelf.Abstract
import Derived.Test.YtkbfmogjhjdjmaaDoorBuN
import Derived.Laws.EntriesVeiled
-- the text BrA
namespace Go.Proofs.YtkbfmogjhjdjmaaDoor
open Go.RowKit
namespace Br
open Bu (natI natI_at)
theorem within_any (n a b : Int) (w : World) : Calls Tryd.prog 38 #[.int .i64 n, .int .i64 a, .int .i64 b] w fun e w' => e = .returned (.bool (decide (a ≤ n ∧ n ≤ b))) ∧ w' = w := by
  by_cases h1 : a ≤ n
  · by_cases h2 : n ≤ b
    · have hR := Lib.hid (show decide (a ≤ n ∧ n ≤ b) = true by simp [h1, h2])
      rw [hR.out]
      go_enter Tryd.func38, Tryd.ntmps38
      go_wp2_with (fail)
      go_ret
      exact ⟨rfl, rfl⟩
    · have hR := Lib.hid (show decide (a ≤ n ∧ n ≤ b) = false by simp [h2])
      rw [hR.out]
      go_enter Tryd.func38, Tryd.ntmps38
      go_wp2_with (fail)
      go_ret
      exact ⟨rfl, rfl⟩
  · have hR := Lib.hid (show decide (a ≤ n ∧ n ≤ b) = false by simp [h1])
    rw [hR.out]
    go_enter Tryd.func38, Tryd.ntmps38
    go_wp2_with (fail)
    go_ret
    exact ⟨rfl, rfl⟩
theorem pow_le {n k : Nat} (hn : n ≤ 9) (hk : k ≤ 7) : n ^ k ≤ 4782969 :=
  Nat.le_trans (Nat.pow_le_pow_left hn k) (Nat.le_trans (Nat.pow_le_pow_right (by omega) hk) (by decide))
/-- With's reckoning: the places of one degree, then of all -/
def oneW : Nat → Nat → Nat × Nat → Nat × Nat
  | 0, _, s => s
  | u + 1, i, (o, p) => oneW u (i + 1) (o * p / i, p - 1)
def allW : List Nat → Nat × Nat → Nat × Nat
  | [], s => s
  | d :: l, s => allW l (oneW (d - 1) 1 s)
def withV (ds : List Nat) : Nat := (allW ds (1, ds.length - 2)).1
structure Deg (ds : List Nat) : Prop where
  lo : 2 ≤ ds.length
  hi : ds.length ≤ 8
  rng : ∀ d ∈ ds, 1 ≤ d ∧ d ≤ ds.length - 1
  sum : ds.sum = 2 * ds.length - 2
theorem oneW_at (u i o p : Nat) : oneW (u + 1) i (o, p) = oneW u (i + 1) (o * p / i, p - 1) := rfl
theorem allW_at {ds : List Nat} {i d : Nat} (h : ds[i]? = some d) (s : Nat × Nat) : allW (ds.drop i) s = allW (ds.drop (i + 1)) (oneW (d - 1) 1 s) := by
  obtain ⟨hj, he⟩ := List.getElem?_eq_some_iff.1 h
  rw [List.drop_eq_getElem_cons hj, he, allW]
theorem sum_drop {ds : List Nat} {i d : Nat} (h : ds[i]? = some d) : (ds.drop i).sum = d + (ds.drop (i + 1)).sum := by
  obtain ⟨hj, he⟩ := List.getElem?_eq_some_iff.1 h
  rw [List.drop_eq_getElem_cons hj, he, List.sum_cons]
theorem len_le_sum {ds : List Nat} (h : ∀ d ∈ ds, 1 ≤ d) : ds.length ≤ ds.sum := by
  induction ds with
  | nil => exact Nat.le_refl _
  | cons d l ih =>
    have h1 := h d (by simp)
    have h2 := ih fun x hx => h x (by simp [hx])
    simp only [List.length_cons, List.sum_cons]
    omega
theorem out_small {o p : Nat} (h : o * 6 ^ p ≤ 46656) : o ≤ 46656 := by
  have h1 : 1 ≤ 6 ^ p := Nat.one_le_pow _ _ (by omega)
  calc o = o * 1 := (Nat.mul_one o).symm
    _ ≤ o * 6 ^ p := Nat.mul_le_mul_left o h1
    _ ≤ 46656 := h
theorem out_next {o p i : Nat} (hp : p + 1 ≤ 6) (h : o * 6 ^ (p + 1) ≤ 46656) : o * (p + 1) / i * 6 ^ p ≤ 46656 := by
  have h1 : o * (p + 1) / i ≤ o * 6 := Nat.le_trans (Nat.div_le_self _ _) (Nat.mul_le_mul_left o hp)
  refine Nat.le_trans (Nat.mul_le_mul_right _ h1) ?_
  rw [Nat.mul_assoc, ← Nat.pow_succ']
  exact h
end Br
end Go.Proofs.YtkbfmogjhjdjmaaDoor
-- the text BrB
namespace Go.Proofs.YtkbfmogjhjdjmaaDoor
open Go.RowKit
namespace Br
open Bu (natI natI_at)
theorem ofInt_u16 (a : Nat) (ha : a < 65536) : (BitVec.ofInt 16 (a : Int)).toNat = a := by
  rw [BitVec.toNat_ofInt]
  omega
theorem wrap_u16 (a : Nat) (ha : a < 65536) : IntKind.u16.wrap (a : Int) = a := by
  simp only [IntKind.wrap, IntKind.bits, IntKind.signed]
  simp
  omega
theorem u16_and (a b : Nat) (ha : a < 65536) (hb : b < 65536) : bits .and .u16 (a : Int) (b : Int) = ((a &&& b : Nat) : Int) := by
  have hx : a &&& b < 2 ^ 16 := Nat.and_lt_two_pow _ (by omega)
  show IntKind.u16.wrap ((BitVec.ofInt 16 (a : Int) &&& BitVec.ofInt 16 (b : Int)).toNat : Int) = _
  rw [BitVec.toNat_and, ofInt_u16 a ha, ofInt_u16 b hb]
  exact wrap_u16 _ (by omega)
theorem u16_or (a b : Nat) (ha : a < 65536) (hb : b < 65536) : bits .or .u16 (a : Int) (b : Int) = ((a ||| b : Nat) : Int) := by
  have hx : a ||| b < 2 ^ 16 := Nat.or_lt_two_pow (by omega) (by omega)
  show IntKind.u16.wrap ((BitVec.ofInt 16 (a : Int) ||| BitVec.ofInt 16 (b : Int)).toNat : Int) = _
  rw [BitVec.toNat_or, ofInt_u16 a ha, ofInt_u16 b hb]
  exact wrap_u16 _ (by omega)
theorem u16_xor (a b : Nat) (ha : a < 65536) (hb : b < 65536) : bits .xor .u16 (a : Int) (b : Int) = ((a ^^^ b : Nat) : Int) := by
  have hx : a ^^^ b < 2 ^ 16 := Nat.xor_lt_two_pow (by omega) (by omega)
  show IntKind.u16.wrap ((BitVec.ofInt 16 (a : Int) ^^^ BitVec.ofInt 16 (b : Int)).toNat : Int) = _
  rw [BitVec.toNat_xor, ofInt_u16 a ha, ofInt_u16 b hb]
  exact wrap_u16 _ (by omega)
theorem has_val (s k : Nat) (hs : s < 65536) : (bits .and .u16 ((s : Int) / 2 ^ k) 1 == 1) = s.testBit k := by
  have e1 : (s : Int) / 2 ^ k = ((s / 2 ^ k : Nat) : Int) := by simp
  have h1 : s / 2 ^ k < 65536 := Nat.lt_of_le_of_lt (Nat.div_le_self _ _) hs
  rw [e1, show (1 : Int) = ((1 : Nat) : Int) from rfl, u16_and _ _ h1 (by omega), Nat.and_one_is_mod, Nat.testBit_eq_decide_div_mod_eq]
  generalize s / 2 ^ k % 2 = q
  by_cases h : q = 1
  · simp [h]
  · simp [h]
    omega
/-- a knot is in a set -/
theorem has_any (s k : Nat) (hs : s < 65536) (hk : k ≤ 8) (w : World) : Calls Tryd.prog 40 #[.int .u16 (s : Int), .int .i64 (k : Int)] w fun e w' => e = .returned (.bool (s.testBit k)) ∧ w' = w := by
  go_enter Tryd.func40, Tryd.ntmps40
  go_wp2_with (fail)
  rw [has_val s k hs]
  go_ret
  exact ⟨rfl, rfl⟩
/-- the knots of a set -/
def knotsL (s : Nat) : List Nat := (List.range 9).filter fun k => s.testBit k
theorem knots_step (s i : Nat) : (List.range (i + 1)).filter (fun k => s.testBit k) = (List.range i).filter (fun k => s.testBit k) ++ (if s.testBit i then [i] else []) := by
  rw [List.range_succ, List.filter_append]
  congr 1
  by_cases h : s.testBit i <;> simp [h]
set_option maxRecDepth 100000 in
set_option maxHeartbeats 1000000 in
theorem list_any (s : Nat) (hs : s < 65536) (w : World) : Calls Tryd.prog 37 #[.int .u16 (s : Int)] w fun e w' => (∃ v, e = .returned v ∧ OwnI w' w.heap.size v (natI (knotsL s))) ∧ Below w.heap.size w w' := by
  have ch := Lib.hid (fun (k : Nat) (hk : k ≤ 8) w' => has_any s k hs hk w')
  obtain ⟨R, hR⟩ : ∃ R, knotsL s = R := ⟨_, rfl⟩
  rw [hR]
  have hRH := Lib.hid hR
  clear hR
  go_enter Tryd.func37, Tryd.ntmps37
  go_wp2_with (fail)
  go_loopw [3, 5] (fun o v wr => ∃ (i : Nat) (acc : List Nat), i ≤ 9 ∧ v = .int .i64 i ∧ acc.length ≤ i ∧ OwnI wr w.heap.size o (natI acc) ∧ Hid ((List.range i).filter (fun k => s.testBit k) = acc) ∧ Below w.heap.size w wr) (fun _ v _ => 9 - (intOf v).toNat)
  case atStart => exact ⟨0, [], by omega, rfl, Nat.le_refl _, OwnI.nil _ _, Lib.hid rfl, Below.refl _ _⟩
  case round =>
    obtain ⟨i, acc, hi, rfl, hal, ho, hE, hb⟩ := hrel
    obtain ⟨wa, rfl⟩ : ∃ x, x = wr := ⟨wr, rfl⟩
    by_cases hlt : i < 9
    · have hlti : (i : Int) < 9 := by omega
      have hst := knots_step s i
      rw [hE.out] at hst
      have ch1 := Lib.hid (ch.out i (by omega) wa)
      obtain ⟨q, hq⟩ : ∃ q, s.testBit i = q := ⟨_, rfl⟩
      rw [hq] at ch1 hst
      clear hq
      cases q with
      | true =>
        rw [if_pos rfl] at hst
        have hN := Lib.hid hst
        have e1 : natI acc ++ [(i : Int)] = natI (acc ++ [i]) := by simp [natI]
        have hlen : (natI acc).length ≤ 1000000000 := by simp [natI]; omega
        clear hst
        go_wp2_with (first
          | (go_at_call 40; (with_reducible refine ch1.out.mono ?_); rintro e wz ⟨rfl, hwz⟩; replace hwz := hwz.symm; subst hwz)
          | (at_builtin
             refine wpList_push rfl _ _ rfl rfl (ho.none_ (World.grownBy_alloc wa _ none)) wa.heap.size 1 (i : Int) rfl (Blk.new wa _ _) hlen (by show _ ≤ (wa.heap.push _).size; have := hb.size; simp; omega) ?_
             intro g6 cap6 w6 ho6 hgr6 hat6 _
             have hb6 := (hb.alloc hb.size (.cells #[.int .i64 (i : Int)] 3)).grown hgr6 (by show _ ≤ (wa.heap.push _).size; have := hb.size; simp; omega) (fun g hg => ho.ge hg)
             rw [e1] at ho6))
        go_roundw
        case rel => exact ⟨i + 1, acc ++ [i], by omega, by go_num, by simp; omega, ho6, hN, hb6⟩
        case measure => simp only [intOf]; omega
      | false =>
        rw [if_neg (by decide), List.append_nil] at hst
        have hN := Lib.hid hst
        clear hst
        go_wp2_with (first
          | (go_at_call 40; (with_reducible refine ch1.out.mono ?_); rintro e wz ⟨rfl, hwz⟩; replace hwz := hwz.symm; subst hwz))
        go_roundw
        case rel => exact ⟨i + 1, acc, by omega, by go_num, by omega, ho, hN, hb⟩
        case measure => simp only [intOf]; omega
    · have hlti : ¬ (i : Int) < 9 := by omega
      obtain rfl : i = 9 := by omega
      have hE2 : acc = R := by rw [← hE.out, ← hRH.out]; rfl
      rw [hE2] at ho
      clear hE2 hE
      go_wp2_with (fail)
      go_ret
      exact ⟨⟨_, rfl, ho⟩, hb⟩
end Br
end Go.Proofs.YtkbfmogjhjdjmaaDoor
-- the text BrC
namespace Go.Proofs.YtkbfmogjhjdjmaaDoor
open Go.RowKit
namespace Br
def uArr (ws : List Nat) : Array Value := (ws.map fun x : Nat => Value.int .u16 (x : Int)).toArray
theorem uArr_at (ws : List Nat) (k : Nat) : (uArr ws)[k]? = (ws[k]?).map fun x : Nat => Value.int .u16 (x : Int) := by simp [uArr]
theorem uArr_set (ws : List Nat) (k x : Nat) : (uArr ws).setIfInBounds k (.int .u16 (x : Int)) = uArr (ws.set k x) := by simp [uArr, List.map_set]
theorem uArr_size (ws : List Nat) : (uArr ws).size = ws.length := by simp [uArr]
theorem uX_at {ws : List Nat} {ext : Array Value} {k : Nat} (h : k < ws.length) : (uArr ws ++ ext)[k]? = (ws[k]?).map fun x : Nat => Value.int .u16 (x : Int) := by
  rw [Array.getElem?_append_left (by rw [uArr_size]; exact h), uArr_at]
theorem uX_set {ws : List Nat} {ext : Array Value} {k x : Nat} (h : k < ws.length) : (uArr ws ++ ext).setIfInBounds k (.int .u16 (x : Int)) = uArr (ws.set k x) ++ ext := by
  rw [← uArr_set, Array.setIfInBounds_append_left (by rw [uArr_size]; exact h)]
/-- one end of a tie -/
def endW (ws : List Nat) (a b : Nat) : List Nat := ws.set a (ws.getD a 0 ^^^ 2 ^ b)
def tieW (ws : List Nat) (a b : Nat) : List Nat := endW (endW ws a b) b a
theorem getD_at {ws : List Nat} {a : Nat} (h : a < ws.length) : ws[a]? = some (ws.getD a 0) := by
  rw [List.getD_eq_getElem?_getD, List.getElem?_eq_getElem h]; rfl
theorem end_len (ws : List Nat) (a b : Nat) : (endW ws a b).length = ws.length := by simp [endW]
theorem end_small {ws : List Nat} {a b : Nat} (h : ∀ x ∈ ws, x < 512) (ha : a < ws.length) (hb : b ≤ 8) : ∀ x ∈ endW ws a b, x < 512 := by
  intro x hx
  rcases List.mem_or_eq_of_mem_set hx with hx | rfl
  · exact h x hx
  · have h1 : ws.getD a 0 < 2 ^ 9 := h _ (List.mem_of_getElem? (getD_at ha))
    have h2 : 2 ^ b < 2 ^ 9 := Nat.pow_lt_pow_right (by omega) (by omega)
    exact Nat.xor_lt_two_pow h1 h2
theorem xor_val {x k : Nat} (hx : x < 65536) (hk : k ≤ 8) : bits .xor .u16 (x : Int) (IntKind.u16.wrap (2 ^ k)) = ((x ^^^ 2 ^ k : Nat) : Int) := by
  have h1 : 2 ^ k ≤ 2 ^ 8 := Nat.pow_le_pow_right (by omega) hk
  have e : (2 : Int) ^ k = ((2 ^ k : Nat) : Int) := by simp
  rw [e, wrap_u16 _ (by omega), u16_xor _ _ hx (by omega)]
theorem grown_drew {w w' : World} {r : Option Nat} (h : w.grownBy w' r) : w.grownBy w'.drew r := ⟨h.os, h.tape, h.output, h.size, h.block⟩
set_option maxRecDepth 100000 in
set_option maxHeartbeats 1000000 in
theorem tie_ext (gw n c a b : Nat) (ws : List Nat) (ext : Array Value) (hl : ws.length = n) (hn : n ≤ 9) (ha : a < n) (hb : b < n) (hws : ∀ x ∈ ws, x < 512) (w : World) (hW : Blk w gw 80 (uArr ws ++ ext)) :
    Calls Tryd.prog 41 #[.slice (some ⟨gw, 0, none⟩) n c, .agg #[.int .i64 (a : Int), .int .i64 (b : Int)]] w fun e w' => e = .returned (.tuple #[]) ∧ Blk w' gw 80 (uArr (tieW ws a b) ++ ext) ∧ Fr (fun i => i = gw) w w' := by
  obtain ⟨xa, hxa⟩ : ∃ x, ws.getD a 0 = x := ⟨_, rfl⟩
  have hca : w.cell? ⟨gw, a, none⟩ = some (.int .u16 (xa : Int)) := by rw [hW.cell, uX_at (by omega), getD_at (by omega), hxa]; rfl
  have hxa5 : xa < 512 := by rw [← hxa]; exact hws _ (List.mem_of_getElem? (getD_at (by omega)))
  have hai : (a : Int) < n := by omega
  have hbi : (b : Int) < n := by omega
  have ha0 : (0 : Int) ≤ a := by omega
  have hb0 : (0 : Int) ≤ b := by omega
  obtain ⟨WS, hWS⟩ : ∃ q, tieW ws a b = q := ⟨_, rfl⟩
  rw [hWS]
  have hWH := Lib.hid (show endW (endW ws a b) b a = WS from hWS)
  clear hWS
  go_enter Tryd.func41, Tryd.ntmps41
  go_wp2_with (first
    | (with_reducible show wpList _ _ _ (⟨_, .box 37 (.tmp 1), _, _, _, _⟩ :: _) _ _
       refine wpList_box_blk rfl 37 _ rfl #[.int .i64 (a : Int), .int .i64 (b : Int)] rfl ?_
       intro w1 g hG hgr hge))
  have hneg : gw ≠ g := by have := hW.lt; omega
  have hW1 := hW.none_ hgr
  have hc1 : w1.cell? ⟨gw, a, none⟩ = some (.int .u16 (xa : Int)) := by rw [hW1.cell, uX_at (by omega), getD_at (by omega), hxa]; rfl
  have hf1 := hW1.frozen a
  have hx0 : w1.cell? ⟨g, 0, none⟩ = some (.int .i64 (a : Int)) := hG.cell 0
  have hx1 : w1.cell? ⟨g, 1, none⟩ = some (.int .i64 (b : Int)) := hG.cell 1
  clear hca
  go_still_tail 10, (by kernel_rfl)
  change wpList _ _ _ _ _ w1.drew
  have hW2 := hW1.drew
  have hG2 := hG.drew
  have hgr2 := grown_drew hgr
  clear hW1 hG hgr hc1 hf1 hx0 hx1
  generalize w1.drew = w2 at *
  have hval := xor_val (x := xa) (k := b) (by omega) (by omega)
  rw [hval]
  obtain ⟨x1, hx1⟩ : ∃ x, xa ^^^ 2 ^ b = x := ⟨_, rfl⟩
  rw [hx1]
  have hc2 : w2.cell? ⟨gw, a, none⟩ = some (.int .u16 (xa : Int)) := by rw [hW2.cell, uX_at (by omega), getD_at (by omega), hxa]; rfl
  have hf2 := hW2.frozen a
  clear hval
  go_wp2_with (fail)
  have hW3 := hW2.set_ a (.int .u16 (x1 : Int))
  rw [uX_set (by omega)] at hW3
  have hG3 := hG2.far (p := ⟨gw, a, none⟩) (Ne.symm hneg) (.int .u16 (x1 : Int))
  have hF3 : Fr (fun i => i = gw) w (w2.setCell ⟨gw, a, none⟩ (.int .u16 (x1 : Int))) := ⟨hgr2.os, hgr2.tape, hgr2.output, by simpa using hgr2.size, fun i hi hne => (Below.heap_setCell w2 _ _ i hne).trans (hgr2.block i hi (by simp))⟩
  have hW3' : Blk (w2.setCell ⟨gw, a, none⟩ (.int .u16 (x1 : Int))) gw 80 (uArr (endW ws a b) ++ ext) := by unfold endW; rw [hxa, hx1]; exact hW3
  clear hW3 hW2 hG2 hgr2 hc2 hf2 hx1 hxa
  generalize w2.setCell ⟨gw, a, none⟩ (.int .u16 (x1 : Int)) = w3 at *
  have hl3 : (endW ws a b).length = n := by rw [end_len, hl]
  have hws3 := end_small hws (show a < ws.length by omega) (show b ≤ 8 by omega)
  generalize endW ws a b = us at *
  obtain ⟨xb, hxb⟩ : ∃ x, us.getD b 0 = x := ⟨_, rfl⟩
  have hxb5 : xb < 512 := by rw [← hxb]; exact hws3 _ (List.mem_of_getElem? (getD_at (by omega)))
  have hc3 : w3.cell? ⟨gw, b, none⟩ = some (.int .u16 (xb : Int)) := by rw [hW3'.cell, uX_at (by omega), getD_at (by omega), hxb]; rfl
  have hf3 := hW3'.frozen b
  have hy0 : w3.cell? ⟨g, 0, none⟩ = some (.int .i64 (a : Int)) := hG3.cell 0
  have hy1 : w3.cell? ⟨g, 1, none⟩ = some (.int .i64 (b : Int)) := hG3.cell 1
  go_wp2_with (fail)
  go_still_tail 10, (by kernel_rfl)
  change wpList _ _ _ _ _ w3.drew
  have hW4 := hW3'.drew
  have hF4 : Fr (fun i => i = gw) w w3.drew := ⟨hF3.os, hF3.tape, hF3.output, hF3.size, hF3.block⟩
  clear hW3' hG3 hF3 hc3 hf3 hy0 hy1
  generalize w3.drew = w4 at *
  have hval := xor_val (x := xb) (k := a) (by omega) (by omega)
  rw [hval]
  obtain ⟨x2, hx2⟩ : ∃ x, xb ^^^ 2 ^ a = x := ⟨_, rfl⟩
  rw [hx2]
  have hc4 : w4.cell? ⟨gw, b, none⟩ = some (.int .u16 (xb : Int)) := by rw [hW4.cell, uX_at (by omega), getD_at (by omega), hxb]; rfl
  have hf4 := hW4.frozen b
  clear hval
  go_wp2_with (fail)
  go_end0
  refine ⟨rfl, ?_, ⟨hF4.os, hF4.tape, hF4.output, by simpa using hF4.size, fun i hi hne => (Below.heap_setCell w4 _ _ i hne).trans (hF4.block i hi hne)⟩⟩
  have h5 := hW4.set_ b (.int .u16 (x2 : Int))
  rw [uX_set (by omega)] at h5
  rw [← hWH.out]
  unfold endW
  rw [hxb, hx2]
  exact h5
theorem tie_ok (gw n c a b : Nat) (ws : List Nat) (hl : ws.length = n) (hn : n ≤ 9) (ha : a < n) (hb : b < n) (hws : ∀ x ∈ ws, x < 512) (w : World) (hW : Blk w gw 80 (uArr ws)) :
    Calls Tryd.prog 41 #[.slice (some ⟨gw, 0, none⟩) n c, .agg #[.int .i64 (a : Int), .int .i64 (b : Int)]] w fun e w' => e = .returned (.tuple #[]) ∧ Blk w' gw 80 (uArr (tieW ws a b)) ∧ Fr (fun i => i = gw) w w' := by
  have h := tie_ext gw n c a b ws #[] hl hn ha hb hws w (by simpa using hW)
  simpa using h
end Br
end Go.Proofs.YtkbfmogjhjdjmaaDoor
-- the text BrD
namespace Go.Proofs.YtkbfmogjhjdjmaaDoor
open Go.RowKit
namespace Br
open Bu (natI natI_at)
/-- the knots of a that are not in b -/
def dropB (a b : Nat) : Nat := a ^^^ (a &&& b)
theorem andNot_nat (a b : Nat) (ha : a < 65536) (hb : b < 65536) : a &&& (65535 - b) = dropB a b := by
  apply Nat.eq_of_testBit_eq
  intro i
  have e : 65535 - b = 2 ^ 16 - (b + 1) := by omega
  unfold dropB
  rw [Nat.testBit_and, Nat.testBit_xor, Nat.testBit_and, e, Nat.testBit_two_pow_sub_succ (by omega)]
  by_cases hi : i < 16
  · rw [decide_eq_true hi]
    cases a.testBit i <;> cases b.testBit i <;> rfl
  · have h1 : a.testBit i = false := Nat.testBit_lt_two_pow (Nat.lt_of_lt_of_le ha (Nat.pow_le_pow_right (n := 2) (by omega) (show 16 ≤ i by omega)))
    rw [h1]
    simp
theorem u16_andNot (a b : Nat) (ha : a < 65536) (hb : b < 65536) : bits .andNot .u16 (a : Int) (b : Int) = ((dropB a b : Nat) : Int) := by
  have hx : a &&& (65535 - b) < 2 ^ 16 := Nat.and_lt_two_pow _ (by omega)
  show IntKind.u16.wrap ((BitVec.ofInt 16 (a : Int) &&& ~~~(BitVec.ofInt 16 (b : Int))).toNat : Int) = _
  rw [BitVec.toNat_and, BitVec.toNat_not, ofInt_u16 a ha, ofInt_u16 b hb, ← andNot_nat a b ha hb]
  exact wrap_u16 _ (by omega)
theorem drop_lt {a b m : Nat} (ha : a < 2 ^ m) : dropB a b < 2 ^ m := Nat.xor_lt_two_pow ha (Nat.lt_of_le_of_lt Nat.and_le_left ha)
theorem drop_grow {a b : Nat} (h : dropB a b ≠ 0) : b < b ||| a := by
  have h1 : b ≤ b ||| a := Nat.left_le_or
  rcases Nat.lt_or_ge b (b ||| a) with h2 | h2
  · exact h2
  · exfalso
    apply h
    have h3 : b ||| a = b := by omega
    apply Nat.eq_of_testBit_eq
    intro i
    have h4 := congrArg (fun x => x.testBit i) h3
    simp only [Nat.testBit_or] at h4
    unfold dropB
    rw [Nat.testBit_xor, Nat.testBit_and, Nat.zero_testBit]
    revert h4
    cases a.testBit i <;> cases b.testBit i <;> simp
/-- all that are tied to some -/
def nextF (ws : List Nat) : List Nat → Nat → Nat
  | [], y => y
  | a :: l, y => nextF ws l (y ||| ws.getD a 0)
def nextW (ws : List Nat) (more : Nat) : Nat := nextF ws (knotsL more) 0
def fromF (ws : List Nat) : Nat → Nat → Nat → Nat
  | 0, all, _ => all
  | u + 1, all, more => if more = 0 then all else fromF ws u (all ||| nextW ws more) (dropB (nextW ws more) all)
theorem from_done (ws : List Nat) (u all : Nat) : fromF ws u all 0 = all := by
  cases u with
  | zero => rfl
  | succ u => rw [fromF, if_pos rfl]
def fromW (ws : List Nat) (k : Nat) : Nat := fromF ws 512 (2 ^ k) (2 ^ k)
theorem knot_lt {s k m : Nat} (hs : s < 2 ^ m) (hk : k ∈ knotsL s) : k < m ∧ k < 9 := by
  unfold knotsL at hk
  rw [List.mem_filter, List.mem_range] at hk
  refine ⟨?_, hk.1⟩
  rcases Nat.lt_or_ge k m with h | h
  · exact h
  · have := Nat.testBit_lt_two_pow (Nat.lt_of_lt_of_le hs (Nat.pow_le_pow_right (n := 2) (by omega) h))
    rw [this] at hk
    cases hk.2
theorem nextF_at {ws l : List Nat} {i a : Nat} (h : l[i]? = some a) (y : Nat) : nextF ws (l.drop i) y = nextF ws (l.drop (i + 1)) (y ||| ws.getD a 0) := by
  obtain ⟨hj, he⟩ := List.getElem?_eq_some_iff.1 h
  rw [List.drop_eq_getElem_cons hj, he, nextF]
set_option maxRecDepth 100000 in
set_option maxHeartbeats 2000000 in
theorem from_ok (gw n c k : Nat) (ws : List Nat) (hl : ws.length = n) (hn : n ≤ 9) (hk : k < n) (hws : ∀ x ∈ ws, x < 2 ^ n) (w : World) (hW : Blk w gw 80 (uArr ws)) :
    Calls Tryd.prog 42 #[.slice (some ⟨gw, 0, none⟩) n c, .int .i64 (k : Int)] w fun e w' => e = .returned (.int .u16 (fromW ws k : Nat)) ∧ Below w.heap.size w w' := by
  have hp : 2 ^ n ≤ 2 ^ 9 := Nat.pow_le_pow_right (by omega) hn
  have h512 : (2 : Nat) ^ 9 = 512 := by decide
  obtain ⟨M, hM⟩ : ∃ M, 2 ^ n = M := ⟨_, rfl⟩
  have hk0 : 2 ^ k < 2 ^ n := Nat.pow_lt_pow_right (by omega) hk
  obtain ⟨K, hK⟩ : ∃ K, 2 ^ k = K := ⟨_, rfl⟩
  have hKi : Value.int .u16 (IntKind.u16.wrap (2 ^ k)) = Value.int .u16 (K : Int) := by
    rw [show (2 : Int) ^ k = ((2 ^ k : Nat) : Int) by simp, hK, wrap_u16 _ (by omega)]
  have hMH := Lib.hid hM
  obtain ⟨R, hR⟩ : ∃ R, fromW ws k = R := ⟨_, rfl⟩
  rw [hR]
  have hR0 := Lib.hid (show fromF ws 512 K K = R by rw [← hR, ← hK]; rfl)
  have hwsH := Lib.hid hws
  have hWH := Lib.hid (fun w' (hb : Below w.heap.size w w') => hW.below hb hW.lt)
  have hK1 : 1 ≤ K := by rw [← hK]; exact Nat.one_le_two_pow
  have hKM : K < M := by rw [← hK, ← hM]; exact hk0
  have hM5 : M ≤ 512 := by rw [← hM, ← h512]; exact hp
  have hki : (k : Int) < 9 := by omega
  have hKiH := Lib.hid hKi
  have hKMH := Lib.hid (And.intro hK1 hKM)
  clear hp h512 hM hk0 hK hR hws hKi hK1 hKM
  go_enter Tryd.func42, Tryd.ntmps42
  go_wp2_with (fail)
  go_loopw [5, 6] (fun a m wr => ∃ u all more : Nat, a = .int .u16 all ∧ m = .int .u16 more ∧ all < M ∧ more < M ∧ (more = 0 ∨ 512 ≤ all + u) ∧ Hid (fromF ws u all more = R) ∧ Below w.heap.size w wr) (fun a m _ => 2 * (512 - (intOf a).toNat) + min 1 (intOf m).toNat)
  case atStart =>
   have h1 := hKMH.out
   exact ⟨512, K, K, hKiH.out, hKiH.out, h1.2, h1.2, by omega, hR0, Below.refl _ _⟩
  case round =>
    clear hR0
    obtain ⟨u, all, more, rfl, rfl, hall, hmore, hu, hE, hb⟩ := hrel
    obtain ⟨wa, rfl⟩ : ∃ x, x = wr := ⟨wr, rfl⟩
    by_cases hm0 : more = 0
    · have hmb : ((more : Int) != 0) = false := by simp [hm0]
      have hRe : all = R := by rw [← hE.out, hm0, from_done]
      subst hRe
      clear hm0
      go_wp2_with (fail)
      go_ret
      exact ⟨rfl, hb⟩
    · have hmb : ((more : Int) != 0) = true := by simp; omega
      obtain ⟨u1, rfl⟩ : ∃ u1, u = u1 + 1 := ⟨u - 1, by omega⟩
      have cl := Lib.hid (fun w' => list_any more (by omega) w')
      have hkn := Lib.hid (fun k (h : k ∈ knotsL more) => knot_lt (m := n) (by rw [hMH.out]; exact hmore) h)
      obtain ⟨NX, hNX⟩ : ∃ x, nextW ws more = x := ⟨_, rfl⟩
      have hE1 := hE.out
      rw [fromF, if_neg hm0, hNX] at hE1
      have hE1H := Lib.hid hE1
      have hNX0 : nextF ws ((knotsL more).drop 0) 0 = NX := by rw [List.drop_zero]; exact hNX
      obtain ⟨L, hL⟩ : ∃ L, knotsL more = L := ⟨_, rfl⟩
      rw [hL] at cl hkn hNX0
      have hNXH := Lib.hid hNX0
      have hLl : L.length ≤ 9 := by
        rw [← hL]
        unfold knotsL
        exact Nat.le_trans (List.length_filter_le _ _) (by simp)
      have hmneH := Lib.hid hm0
      clear hE hE1 hNX hNX0 hL hm0
      go_wp2_with (first
        | (go_at_call 37; (with_reducible refine (cl.out _).mono ?_); rintro e w2 ⟨⟨v2, rfl, ho2⟩, hb2⟩
           obtain ⟨A, cp, hv2, hr2⟩ := ho2.reads
           rw [show (natI L).length = L.length by simp [natI]] at hv2 hr2
           subst hv2
           have hb3 := hb.trans (hb2.mono hb.size)))
      obtain ⟨q, hq⟩ : ∃ q, L.length = q := ⟨_, rfl⟩
      rw [hq] at hr2 hLl ⊢
      go_loopw [7, 18] (fun y v wr => ∃ i z : Nat, i ≤ q ∧ v = .int .i64 i ∧ y = .int .u16 z ∧ z < M ∧ Hid (nextF ws (L.drop i) z = NX) ∧ w2 = wr) (fun _ v _ => q - (intOf v).toNat)
      case atStart => exact ⟨0, 0, by omega, rfl, rfl, by omega, hNXH, rfl⟩
      case round =>
        clear hNXH
        obtain ⟨i, z, hi, rfl, rfl, hz, hN, hw⟩ := hrel
        subst hw
        by_cases hlt : i < q
        · have hlti : (i : Int) < q := by omega
          obtain ⟨ad, z1, rfl, _, hcell, hz1⟩ := hr2.at_ hlt
          obtain ⟨a, ha, rfl⟩ := natI_at hz1.out
          have hak := hkn.out a (List.mem_of_getElem? ha)
          have hW2 := hWH.out w2 hb3
          obtain ⟨x, hx⟩ : ∃ x, ws.getD a 0 = x := ⟨_, rfl⟩
          have hcw : w2.cell? ⟨gw, a, none⟩ = some (.int .u16 (x : Int)) := by rw [hW2.cell, uArr_at, getD_at (by omega), hx]; rfl
          have hxM : x < M := by rw [← hMH.out, ← hx]; exact hwsH.out _ (List.mem_of_getElem? (getD_at (by omega)))
          have hor := u16_or z x (by omega) (by omega)
          have hN2 := hN.out
          rw [nextF_at ha, hx] at hN2
          have hN3 := Lib.hid hN2
          have hzx : z ||| x < M := by rw [← hMH.out] at hz hxM ⊢; exact Nat.or_lt_two_pow hz hxM
          obtain ⟨o, ho⟩ : ∃ o, z ||| x = o := ⟨_, rfl⟩
          rw [ho] at hor hN3 hzx
          have hai : (a : Int) < n := by omega
          have ha0 : (0 : Int) ≤ a := by omega
          clear hN2 hx ho hz1 ha
          go_wp2_with (fail)
          go_roundw
          case rel => exact ⟨i + 1, o, by omega, by go_num, rfl, hzx, hN3, by first | rfl | trivial⟩
          case measure => simp only [intOf]; omega
        · have hlti : ¬ (i : Int) < q := by omega
          have hzN : z = NX := by
            have h1 := hN.out
            rwa [List.drop_of_length_le (by omega), nextF] at h1
          subst hzN
          have han := u16_andNot z all (by omega) (by omega)
          have hor := u16_or all z (by omega) (by omega)
          have hgr := drop_grow (a := z) (b := all)
          have hd : dropB z all < M := by rw [← hMH.out] at hz ⊢; exact drop_lt hz
          have ho : all ||| z < M := by rw [← hMH.out] at hz hall ⊢; exact Nat.or_lt_two_pow hall hz
          have hle : all ≤ all ||| z := Nat.left_le_or
          obtain ⟨d, hde⟩ : ∃ d, dropB z all = d := ⟨_, rfl⟩
          obtain ⟨o, hoe⟩ : ∃ o, all ||| z = o := ⟨_, rfl⟩
          have hE2 := hE1H.out
          rw [hde, hoe] at hE2
          have hE3 := Lib.hid hE2
          rw [hde, hoe] at hgr
          rw [hde] at han hd
          rw [hoe] at hor ho hle
          have hgrH := Lib.hid hgr
          clear hE2 hde hoe hgr hN
          go_wp2_with (fail)
          go_roundw
          case rel => exact ⟨u1, o, d, rfl, rfl, ho, hd, by
            rcases Nat.eq_zero_or_pos d with h | h
            · exact Or.inl h
            · have := hgrH.out (by omega)
              have := hmneH.out
              omega, hE3, hb3⟩
          case measure =>
            simp only [intOf]
            have hm1 := hmneH.out
            rcases Nat.eq_zero_or_pos d with h | h
            · omega
            · have := hgrH.out (by omega)
              omega
end Br
end Go.Proofs.YtkbfmogjhjdjmaaDoor
-- the text BrE
namespace Go.Proofs.YtkbfmogjhjdjmaaDoor
open Go.RowKit
namespace Br
open Bu (natI natI_at)
theorem has_q (s k : Nat) (hs : s < 65536) (hk : k ≤ 8) (w : World) : Calls Tryd.prog 40 #[.int .u16 (s : Int), .int .i64 (k : Int)] w fun e w' => e = .returned (.bool (s.testBit k)) ∧ ∃ q, w' = w.drewN q :=
  (has_any s k hs hk w).mono fun _ _ h => ⟨h.1, 0, h.2⟩
theorem all_val {n : Nat} (hn : n ≤ 9) : ((((2 ^ n - 1 : Nat) : Nat) : Int) != IntKind.u16.wrap (IntKind.u16.wrap (2 ^ n) - 1)) = false := by
  have h4 : 2 ^ n ≤ 2 ^ 9 := Nat.pow_le_pow_right (by omega) hn
  have h5 : 1 ≤ 2 ^ n := Nat.one_le_two_pow
  rw [show (2 : Int) ^ n = ((2 ^ n : Nat) : Int) by simp, wrap_u16 _ (by omega), show (((2 ^ n : Nat) : Int) - 1) = ((2 ^ n - 1 : Nat) : Int) by omega, wrap_u16 _ (by omega)]
  simp
set_option maxRecDepth 100000 in
set_option maxHeartbeats 1000000 in
theorem may_ok (gw n c a b : Nat) (hn : n ≤ 9) (ha : a < n) (hb : b < n) (hab : a ≠ b) (w : World) :
    Calls Tryd.prog 39 #[.slice (some ⟨gw, 0, none⟩) n c, .agg #[.int .i64 (a : Int), .int .i64 (b : Int)]] w fun e w' => e = .returned (.int .i64 0) ∧ Below w.heap.size w w' := by
  have cw := Lib.hid (fun (x : Nat) w' => within_any (x : Int) 0 ((n : Int) - 1) w')
  have cwa := Lib.hid (fun w' => cw.out a w')
  have cwb := Lib.hid (fun w' => cw.out b w')
  rw [decide_eq_true (by omega)] at cwa cwb
  have habi : ((a : Int) == b) = false := by simp; omega
  go_enter Tryd.func39, Tryd.ntmps39
  go_wp2_with (first
    | (with_reducible show wpList _ _ _ (⟨_, .box 37 (.tmp 1), _, _, _, _⟩ :: _) _ _
       refine wpList_box_blk rfl 37 _ rfl #[.int .i64 (a : Int), .int .i64 (b : Int)] rfl ?_
       intro w1 g hG hgr hge
       have hx0 : w1.cell? ⟨g, 0, none⟩ = some (.int .i64 (a : Int)) := hG.cell 0
       have hx1 : w1.cell? ⟨g, 1, none⟩ = some (.int .i64 (b : Int)) := hG.cell 1
       have hb1 := below_none (Below.refl w.heap.size w) hgr (Nat.le_refl _))
    | (go_at_call 38; (with_reducible refine (cwa.out _).mono ?_); rintro e wz ⟨rfl, hwz⟩; replace hwz := hwz.symm; subst hwz)
    | (go_at_call 38; (with_reducible refine (cwb.out _).mono ?_); rintro e wz ⟨rfl, hwz⟩; replace hwz := hwz.symm; subst hwz))
  go_ret
  exact ⟨rfl, hb1⟩
/-- ties as cells -/
def tArr : List (Nat × Nat) → List Value
  | [] => []
  | (a, b) :: l => .int .i64 (a : Int) :: .int .i64 (b : Int) :: tArr l
theorem tArr_at : ∀ (ts : List (Nat × Nat)) (i a b : Nat), ts[i]? = some (a, b) → (tArr ts)[i * 2]? = some (.int .i64 (a : Int)) ∧ (tArr ts)[i * 2 + 1]? = some (.int .i64 (b : Int)) := by
  intro ts
  induction ts with
  | nil => intro i a b h; simp at h
  | cons p l ih =>
    obtain ⟨x, y⟩ := p
    intro i a b h
    cases i with
    | zero =>
      simp at h
      obtain ⟨rfl, rfl⟩ := h
      exact ⟨rfl, rfl⟩
    | succ i =>
      have h2 := ih i a b (by simpa using h)
      rw [show (i + 1) * 2 = i * 2 + 1 + 1 by omega, tArr]
      simpa using h2
/-- the wood of the first ties -/
def woodI (n : Nat) : List (Nat × Nat) → List Nat
  | [] => List.replicate n 0
  | (a, b) :: l => tieW (woodI n l) a b
def woodT (n : Nat) (ts : List (Nat × Nat)) (i : Nat) : List Nat := woodI n (ts.take i).reverse
theorem wood_step {n i a b : Nat} {ts : List (Nat × Nat)} (h : ts[i]? = some (a, b)) : woodT n ts (i + 1) = tieW (woodT n ts i) a b := by
  unfold woodT
  rw [List.take_add_one, h, Option.toList_some, List.reverse_append]
  rfl
theorem woodI_len (n : Nat) (ts : List (Nat × Nat)) : (woodI n ts).length = n := by
  induction ts with
  | nil => simp [woodI]
  | cons p l ih =>
    obtain ⟨a, b⟩ := p
    rw [woodI, tieW, end_len, end_len, ih]
theorem end_small2 {ws : List Nat} {a b m : Nat} (h : ∀ x ∈ ws, x < 2 ^ m) (ha : a < ws.length) (hb : b < m) : ∀ x ∈ endW ws a b, x < 2 ^ m := by
  intro x hx
  rcases List.mem_or_eq_of_mem_set hx with hx | rfl
  · exact h x hx
  · exact Nat.xor_lt_two_pow (h _ (List.mem_of_getElem? (getD_at ha))) (Nat.pow_lt_pow_right (by omega) hb)
structure Tree (n : Nat) (ts : List (Nat × Nat)) : Prop where
  n1 : 1 ≤ n
  n9 : n ≤ 9
  len : ts.length < n
  tie : ∀ i a b, ts[i]? = some (a, b) → a < n ∧ b < n ∧ a ≠ b ∧ ((woodT n ts i).getD a 0).testBit b = false
  whole : fromW (woodT n ts ts.length) 0 = 2 ^ n - 1
theorem wood_small {n : Nat} {ts : List (Nat × Nat)} (h : Tree n ts) (i : Nat) (hi : i ≤ ts.length) : ∀ x ∈ woodT n ts i, x < 2 ^ n := by
  induction i with
  | zero =>
    intro x hx
    have : x = 0 := List.eq_of_mem_replicate (show x ∈ List.replicate n 0 from hx)
    rw [this]
    exact Nat.two_pow_pos n
  | succ i ih =>
    obtain ⟨⟨a, b⟩, hp⟩ : ∃ p, ts[i]? = some p := ⟨_, List.getElem?_eq_getElem (by omega)⟩
    obtain ⟨h1, h2, _⟩ := h.tie i a b hp
    rw [wood_step hp]
    have hl : (woodT n ts i).length = n := woodI_len _ _
    exact end_small2 (end_small2 (ih (by omega)) (by omega) h2) (by rw [end_len]; omega) h1
theorem info_u16 : (Tryd.prog.info? 80).map (fun i => (i.zero, i.size, i.bytes)) = some (some (.int .u16 0), 1, 2) := by kernel_rfl
theorem uArr_made (n : Nat) : madeCells #[Value.int .u16 0] n = uArr (List.replicate n 0) := by
  apply Array.toList_inj.1
  rw [toList_madeCells_one]
  simp [uArr]
theorem zero_two (w : World) : (zeroValue 37).run Tryd.prog w = .ok (.agg #[.int .i64 0, .int .i64 0]) w := by
  rw [Tryd.zeroValue37]
/-- the slice A reads as the ties ts, from the first cell of its block on -/
def TieS (w : World) (A : Option Addr) (ts : List (Nat × Nat)) : Prop := ts = [] ∨ ∃ g cs, A = some ⟨g, 0, none⟩ ∧ Blk w g 37 cs ∧ ∀ (j : Nat) (u : Value), (tArr ts)[j]? = some u → cs[j]? = some u
theorem TieS.of_blk {w : World} {g : Nat} {ts : List (Nat × Nat)} (h : Blk w g 37 (tArr ts).toArray) : TieS w (some ⟨g, 0, none⟩) ts := Or.inr ⟨g, _, rfl, h, fun j u hj => by simpa using hj⟩
theorem TieS.below {w w' : World} {A : Option Addr} {ts : List (Nat × Nat)} (h : TieS w A ts) (hb : Below w.heap.size w w') : TieS w' A ts := by
  rcases h with h | ⟨g, cs, e, hB, hc⟩
  · exact Or.inl h
  · exact Or.inr ⟨g, cs, e, hB.below hb hB.lt, hc⟩
set_option maxRecDepth 100000 in
set_option maxHeartbeats 2000000 in
theorem grown_ok (n : Nat) (ts : List (Nat × Nat)) (hT : Tree n ts) (At : Option Addr) (cc : Nat) (w : World) (hW : TieS w At ts) :
    Calls Tryd.prog 24 #[.agg #[.int .i64 (n : Int), .slice At ts.length cc]] w fun e w' => ∃ gw, e = .returned (.tuple #[.slice (some ⟨gw, 0, none⟩) n n, .int .i64 0]) ∧ w.heap.size ≤ gw ∧ Blk w' gw 80 (uArr (woodT n ts ts.length)) ∧ Below w.heap.size w w' := by
  have h1 := hT.n1
  have h9 := hT.n9
  have hln := hT.len
  have hTH := Lib.hid hT
  have cw := Lib.hid (fun w' => within_any (n : Int) 1 9 w')
  rw [decide_eq_true (by omega)] at cw
  obtain ⟨m, hm⟩ : ∃ m, ts.length = m := ⟨_, rfl⟩
  have hmH := Lib.hid hm
  rw [hm] at hln ⊢
  obtain ⟨WS, hWS⟩ : ∃ x, woodT n ts m = x := ⟨_, rfl⟩
  rw [hWS]
  have hWSH := Lib.hid hWS
  have hmk := run_make_row' (P := Tryd.prog) 62 80 (.int .u16 0) 2 Tryd.underlying62 info_u16 rfl .i64 .i64 n (by omega) (by omega)
  have hWgt := Lib.hid (fun w' (hb : Below w.heap.size w w') => hW.below hb)
  clear hT hm hWS hW
  go_enter Tryd.func24, Tryd.ntmps24
  go_wp2_with (first
    | (with_reducible show wpList _ _ _ (⟨_, .box 33 (.tmp 0), _, _, _, _⟩ :: _) _ _
       refine wpList_box_blk rfl 33 _ rfl #[.int .i64 (n : Int), .slice At m cc] rfl ?_
       intro w1 g1 hG hgr hge
       have hx0 : w1.cell? ⟨g1, 0, none⟩ = some (.int .i64 (n : Int)) := hG.cell 0
       have hx1 : w1.cell? ⟨g1, 1, none⟩ = some (.slice At m cc) := hG.cell 1
       have hb1 := below_none (Below.refl w.heap.size w) hgr (Nat.le_refl _)
       have hgl := hG.lt
       have hx1A : (w1.alloc (.cells (madeCells #[.int .u16 0] n) 80)).cell? ⟨g1, 1, none⟩ = some (.slice At m cc) := by rw [World.cell?_alloc_lt _ _ _ hgl]; exact hx1)
    | (go_at_call 38; (with_reducible refine (cw.out _).mono ?_); rintro e wz ⟨rfl, hwz⟩; replace hwz := hwz.symm; subst hwz))
  have hB0 := Blk.new w1 80 (madeCells #[.int .u16 0] n)
  rw [uArr_made] at hB0 ⊢
  have hG0 := hG.alloc (.cells (uArr (List.replicate n 0)) 80)
  have hb0 := hb1.alloc hb1.size (.cells (uArr (List.replicate n 0)) 80)
  have hge0 := hb1.size
  have hW0 : Blk (w1.alloc (.cells (uArr (List.replicate n 0)) 80)) w1.heap.size 80 (uArr (woodT n ts 0)) := hB0
  clear hB0 hmk hG hgr hx0 hx1 hx1A hb1
  generalize w1.alloc (.cells (uArr (List.replicate n 0)) 80) = w2 at *
  obtain ⟨gw, hgw⟩ : ∃ q, w1.heap.size = q := ⟨_, rfl⟩
  rw [hgw] at hW0 hge0 hgl ⊢
  clear hgw w1
  go_loopw [18] (fun v wr => ∃ i : Nat, i ≤ m ∧ v = .int .i64 i ∧ Blk wr gw 80 (uArr (woodT n ts i)) ∧ Blk wr g1 33 #[.int .i64 (n : Int), .slice At m cc] ∧ Below w.heap.size w wr) (fun v _ => m - (intOf v).toNat)
  case atStart => exact ⟨0, by omega, rfl, hW0, hG0, hb0⟩
  case round =>
    clear hW0 hG0 hb0
    obtain ⟨i, hi, rfl, hW, hG, hb⟩ := hrel
    obtain ⟨wa, rfl⟩ : ∃ x, x = wr := ⟨wr, rfl⟩
    by_cases hlt : i < m
    · have hlti : (i : Int) < m := by omega
      obtain ⟨⟨a, b⟩, hp⟩ : ∃ p, ts[i]? = some p := ⟨_, List.getElem?_eq_getElem (by rw [hmH.out]; exact hlt)⟩
      obtain ⟨ha, hb', hab, hbit⟩ := hTH.out.tie i a b hp
      have hcs := tArr_at ts i a b hp
      rcases hWgt.out wa hb with hn0 | ⟨gt, cst, hAt, hWt, hct⟩
      · rw [hn0] at hp
        simp at hp
      subst hAt
      have hc0 : wa.cell? ⟨gt, i * 2, none⟩ = some (.int .i64 (a : Int)) := by rw [hWt.cell]; exact hct _ _ hcs.1
      have hc1 : wa.cell? ⟨gt, i * 2 + 1, none⟩ = some (.int .i64 (b : Int)) := by rw [hWt.cell]; exact hct _ _ hcs.2
      have hst := wood_step (n := n) hp
      have hws := wood_small hTH.out i (by rw [hmH.out]; omega)
      have hwl : (woodT n ts i).length = n := woodI_len _ _
      clear hcs hp hct
      obtain ⟨xa, hxa⟩ : ∃ x, (woodT n ts i).getD a 0 = x := ⟨_, rfl⟩
      rw [hxa] at hbit
      have hx5 : xa < 512 := by
        have h3 := hws _ (List.mem_of_getElem? (getD_at (ws := woodT n ts i) (a := a) (by omega)))
        have h4 : 2 ^ n ≤ 2 ^ 9 := Nat.pow_le_pow_right (by omega) h9
        rw [hxa] at h3
        omega
      have hws5 : ∀ x ∈ woodT n ts i, x < 512 := fun x hx => by
        have h3 := hws x hx
        have h4 : 2 ^ n ≤ 2 ^ 9 := Nat.pow_le_pow_right (by omega) h9
        omega
      have hws5H := Lib.hid hws5
      have hwlH := Lib.hid hwl
      have hstH := Lib.hid hst
      have hai : (a : Int) < n := by omega
      have ha0 : (0 : Int) ≤ a := by omega
      have hcX := fun w' (h : Blk w' gw 80 (uArr (woodT n ts i))) => (show w'.cell? ⟨gw, a, none⟩ = some (.int .u16 (xa : Int)) by rw [h.cell, uArr_at, getD_at (by omega), hxa]; rfl)
      have hcXH := Lib.hid hcX
      clear hst hws hwl hws5 hxa hcX
      go_wp2_with (first
        | (go_at_call 39; (with_reducible refine (may_ok gw n n a b h9 ha hb' hab _).mono ?_); rintro e w3 ⟨rfl, hb3⟩
           have hX3 := (Blk.new wa 37 #[.int .i64 (a : Int), .int .i64 (b : Int)]).callee hb3
           have hW3 := (hW.alloc (.cells #[.int .i64 (a : Int), .int .i64 (b : Int)] 37)).callee hb3
           have hG3 := (hG.alloc (.cells #[.int .i64 (a : Int), .int .i64 (b : Int)] 37)).callee hb3
           have hbA := hb.alloc hb.size (.cells #[.int .i64 (a : Int), .int .i64 (b : Int)] 37)
           have hbe3 := hbA.trans (hb3.mono hbA.size)
           clear hbA hb3 hW hG hb hc0 hc1 hWt
           have hy0 : w3.cell? ⟨wa.heap.size, 0, none⟩ = some (.int .i64 (a : Int)) := hX3.cell 0
           have hy1 : w3.cell? ⟨wa.heap.size, 1, none⟩ = some (.int .i64 (b : Int)) := hX3.cell 1
           have hyw := hcXH.out w3 hW3))
      have cH := Lib.hid (fun q => has_q xa b (by omega) (by omega) (w3.drewN q))
      rw [hbit] at cH
      clear hbit
      go_quiet (first
        | (with_reducible exact Calls.quiet_of (cH.out _)))
      have hX4 := hX3.drewN nq
      have hW4 := hW3.drewN nq
      have hG4 := hG3.drewN nq
      have hbe4 := below_drewN hbe3 nq
      clear hX3 hW3 hG3 hbe3 hy0 hy1 hyw cH
      generalize w3.drewN nq = w4 at *
      have hy0 : w4.cell? ⟨wa.heap.size, 0, none⟩ = some (.int .i64 (a : Int)) := hX4.cell 0
      have hy1 : w4.cell? ⟨wa.heap.size, 1, none⟩ = some (.int .i64 (b : Int)) := hX4.cell 1
      go_wp2_with (first
        | (go_at_call 41; (with_reducible refine (tie_ok gw n n a b _ hwlH.out h9 ha hb' hws5H.out _ hW4).mono ?_); rintro e w5 ⟨rfl, hW5, hF5⟩
           have hne : g1 ≠ gw := hG4.ne_ hW4 (by decide)
           have hG5 := (hF5.block g1 hG4.lt hne).trans hG4
           have hb5 := hF5.below hbe4 hbe4.size (fun j hj => by rw [hj]; exact hge0)
           rw [← hstH.out] at hW5))
      go_roundw
      case rel => exact ⟨i + 1, by omega, by go_num, hW5, hG5, hb5⟩
      case measure => simp only [intOf]; omega
    · have hlti : ¬ (i : Int) < m := by omega
      obtain rfl : i = m := by omega
      have hz0 : wa.cell? ⟨g1, 0, none⟩ = some (.int .i64 (n : Int)) := hG.cell 0
      have hz1 : wa.cell? ⟨g1, 1, none⟩ = some (.slice At i cc) := hG.cell 1
      have hmn : ¬ (n : Int) ≤ i := by omega
      have hmnn : decide (n ≤ i) = false := decide_eq_false (by omega)
      go_wp2_with (fail)
      have hwh := hTH.out.whole
      rw [hmH.out] at hwh
      have hmn2 := all_val h9
      obtain ⟨M1, hM1⟩ : ∃ q, 2 ^ n - 1 = q := ⟨_, rfl⟩
      rw [hM1] at hwh hmn2
      have cf := Lib.hid (fun w' (hW : Blk w' gw 80 (uArr (woodT n ts i))) => from_ok gw n n 0 (woodT n ts i) (woodI_len _ _) h9 h1 (wood_small hTH.out i (by rw [hmH.out]; omega)) w' hW)
      rw [hwh, Int.natCast_zero] at cf
      have hWSe := hWSH.out
      rw [hWSe] at hW
      rw [hWSe] at cf
      clear hwh hM1 hz1 hmn hmnn
      go_region_held3 (fun w' => w'.cell? ⟨g1, 0, none⟩ = some (.int .i64 (n : Int)))
        (first | assumption | exact hz0)
        (first
          | (go_at_call 42; (with_reducible refine (cf.out wa.drew hW.drew).mono ?_); rintro e w6 ⟨rfl, hb6⟩
             have hS6 : w6.cell? ⟨g1, 0, none⟩ = some (.int .i64 (n : Int)) := (hG.drew.callee hb6).cell 0))
      have hW6 := hW.drew.callee hb6
      have hbe6 := hb.drew.trans (hb6.mono hb.size)
      clear hW hG hb hz0
      go_wp2_with (fail)
      go_ret2
      exact ⟨gw, rfl, hge0, hW6, hbe6⟩
end Br
end Go.Proofs.YtkbfmogjhjdjmaaDoor
-- the text BrF
namespace Go.Proofs.YtkbfmogjhjdjmaaDoor
open Go.RowKit
namespace Br
/-- one knot alone -/
def leafB (s : Nat) : Bool := s != 0 && (s &&& (s - 1)) == 0
theorem leaf_any (s : Nat) (hs : s < 65536) (w : World) : Calls Tryd.prog 115 #[.int .u16 (s : Int)] w fun e w' => e = .returned (.bool (leafB s)) ∧ w' = w := by
  by_cases h0 : s = 0
  · have hb : ((s : Int) != 0) = false := by simp [h0]
    have hL := Lib.hid (show leafB s = false by rw [h0]; rfl)
    rw [hL.out]
    clear h0
    go_enter Tryd.func115, Tryd.ntmps115
    go_wp2_with (fail)
    go_ret
    exact ⟨rfl, rfl⟩
  · have hb : ((s : Int) != 0) = true := by simp; omega
    have hs1 : IntKind.u16.wrap ((s : Int) - 1) = ((s - 1 : Nat) : Int) := by
      rw [show (s : Int) - 1 = ((s - 1 : Nat) : Int) by omega]
      exact wrap_u16 _ (by omega)
    have hand := u16_and s (s - 1) hs (by omega)
    obtain ⟨q, hq⟩ : ∃ q, leafB s = q := ⟨_, rfl⟩
    rw [hq]
    have hqH := Lib.hid (show (((s &&& (s - 1) : Nat) : Int) == 0) = q by
      rw [← hq]
      unfold leafB
      have h1 : (s != 0) = true := by simpa using h0
      rw [h1, Bool.true_and]
      by_cases h2 : s &&& (s - 1) = 0
      · simp [h2]
      · have h3 : ((s &&& (s - 1)) == 0) = false := by simpa using h2
        rw [h3]
        simp only [beq_eq_false_iff_ne]
        omega)
    have hs1H := Lib.hid hs1
    clear hq h0 hs1
    go_enter Tryd.func115, Tryd.ntmps115
    have hs1 := hs1H.out
    go_wp2_with (fail)
    go_ret
    exact ⟨by rw [← hqH.out]; rfl, rfl⟩
/-- the first leaf -/
theorem idx_ok (gw n c k : Nat) (ws : List Nat) (ext : Array Value) (hl : ws.length = n) (hn : n ≤ 9) (hk : k < n) (hws : ∀ x ∈ ws, x < 512) (h1 : leafB (ws.getD k 0) = true) (h2 : ∀ j, j < k → leafB (ws.getD j 0) = false) (w : World) (hW : Blk w gw 80 (uArr ws ++ ext)) :
    Calls Tryd.prog 114 #[.slice (some ⟨gw, 0, none⟩) n c, .func (.func 115) #[] #[]] w fun e w' => e = .returned (.int .i64 (k : Int)) ∧ w' = w := by
  have h1H := Lib.hid h1
  have h2H := Lib.hid h2
  have hwsH := Lib.hid hws
  clear h1 h2 hws
  go_enter Tryd.func114, Tryd.ntmps114
  go_wp2_with (fail)
  go_loopw [8] (fun v wr => ∃ i : Nat, i ≤ k ∧ v = .int .i64 i ∧ w = wr) (fun v _ => n - (intOf v).toNat)
  case atStart => exact ⟨0, by omega, rfl, rfl⟩
  case round =>
    obtain ⟨i, hi, rfl, hw⟩ := hrel
    subst hw
    have hlti : (i : Int) < n := by omega
    have hi0 : (0 : Int) ≤ i := by omega
    obtain ⟨x, hx⟩ : ∃ x, ws.getD i 0 = x := ⟨_, rfl⟩
    have hc : w.cell? ⟨gw, i, none⟩ = some (.int .u16 (x : Int)) := by rw [hW.cell, uX_at (by omega), getD_at (by omega), hx]; rfl
    have hx5 : x < 512 := by rw [← hx]; exact hwsH.out _ (List.mem_of_getElem? (getD_at (by omega)))
    have cl := Lib.hid (leaf_any x (by omega) w)
    by_cases hik : i = k
    · have hb : leafB x = true := by rw [← hx, hik]; exact h1H.out
      rw [hb] at cl
      have hikH := Lib.hid hik
      clear hb hx hik
      go_wp2_with (first
        | (go_at_call 115; (with_reducible refine cl.out.mono ?_); rintro e wz ⟨rfl, hwz⟩; replace hwz := hwz.symm; subst hwz))
      go_ret
      exact ⟨by rw [← hikH.out]; rfl, rfl⟩
    · have hb : leafB x = false := by rw [← hx]; exact h2H.out i (by omega)
      rw [hb] at cl
      clear hb hx
      go_wp2_with (first
        | (go_at_call 115; (with_reducible refine cl.out.mono ?_); rintro e wz ⟨rfl, hwz⟩; replace hwz := hwz.symm; subst hwz))
      go_roundw
      case rel => exact ⟨i + 1, by omega, by go_num, by first | rfl | trivial⟩
      case measure => simp only [intOf]; omega
/-- the first knot -/
theorem first_ok (s k : Nat) (hs : s < 65536) (hk : k ≤ 8) (h1 : s.testBit k = true) (h2 : ∀ j, j < k → s.testBit j = false) (w : World) :
    Calls Tryd.prog 111 #[.int .u16 (s : Int)] w fun e w' => e = .returned (.int .i64 (k : Int)) ∧ w' = w := by
  have h1H := Lib.hid h1
  have h2H := Lib.hid h2
  clear h1 h2
  go_enter Tryd.func111, Tryd.ntmps111
  go_wp2_with (fail)
  go_loopw [3] (fun v wr => ∃ i : Nat, i ≤ k ∧ v = .int .i64 i ∧ w = wr) (fun v _ => 9 - (intOf v).toNat)
  case atStart => exact ⟨0, by omega, rfl, rfl⟩
  case round =>
    obtain ⟨i, hi, rfl, hw⟩ := hrel
    subst hw
    have cl := Lib.hid (has_any s i hs (by omega) w)
    by_cases hik : i = k
    · have hb : s.testBit i = true := by rw [hik]; exact h1H.out
      rw [hb] at cl
      have hikH := Lib.hid hik
      clear hb hik
      go_wp2_with (first
        | (go_at_call 40; (with_reducible refine cl.out.mono ?_); rintro e wz ⟨rfl, hwz⟩; replace hwz := hwz.symm; subst hwz))
      go_ret
      exact ⟨by rw [← hikH.out]; rfl, rfl⟩
    · have hb : s.testBit i = false := h2H.out i (by omega)
      rw [hb] at cl
      clear hb
      go_wp2_with (first
        | (go_at_call 40; (with_reducible refine cl.out.mono ?_); rintro e wz ⟨rfl, hwz⟩; replace hwz := hwz.symm; subst hwz))
      go_roundw
      case rel => exact ⟨i + 1, by omega, by go_num, by first | rfl | trivial⟩
      case measure => simp only [intOf]; omega
theorem info_u16' : (Tryd.prog.info? 80).map (fun i => (i.zero, i.size, i.bytes)) = some (some (.int .u16 0), 1, 2) := by kernel_rfl
set_option maxRecDepth 100000 in
set_option maxHeartbeats 1000000 in
/-- a wood cloned -/
theorem clone_ok (gw n c : Nat) (ws : List Nat) (hl : ws.length = n) (h1 : 1 ≤ n) (hn : n ≤ 9) (w : World) (hW : Blk w gw 80 (uArr ws)) :
    Calls Tryd.prog 113 #[.slice (some ⟨gw, 0, none⟩) n c] w fun e w' => ∃ g c' ext, e = .returned (.slice (some ⟨g, 0, none⟩) n c') ∧ w.heap.size ≤ g ∧ Blk w' g 80 (uArr ws ++ ext) ∧ Below w.heap.size w w' := by
  obtain ⟨i0, hi0, hz0, hz1, hz2⟩ := info_parts info_u16'
  have q97 : ∀ (w : World) (a : Option Addr) (n c n' c' : Nat), (binOp .eql 62 (.slice a n c) (.slice none n' c')).run Tryd.prog w = .ok (.bool a.isNone) w := fun w a n c n' c' => Lib.run_eql_slice_nil w _ _ a n c n' c' Tryd.underlying62
  have hnews : ∀ j u, (ws.map fun x : Nat => Value.int .u16 (x : Int))[j]? = some u → (w.alloc (.cells #[] 80)).cell? ((⟨gw, 0, none⟩ : Addr).add j) = some u := fun j u hj => by
    have e : (⟨gw, 0, none⟩ : Addr).add j = ⟨gw, j, none⟩ := by unfold Addr.add; split <;> simp_all
    rw [e, (hW.alloc _).cell]
    simpa [uArr] using hj
  go_enter Tryd.func113, Tryd.ntmps113
  go_wp2_with (first
    | (at_builtin
       refine wpList_append_grows _ rfl _ _ 62 rfl 80 i0 (.int .u16 0) 1 2 Tryd.underlying62 hi0 hz0 hz1 hz2 rfl (by decide) (some ⟨w.heap.size, 0, none⟩) 0 0 [] rfl (fun h => by cases h) rfl (fun _ _ j u hj => by simp at hj)
         ⟨gw, 0, none⟩ n c (ws.map fun x : Nat => Value.int .u16 (x : Int)) rfl (by simp [hl]) hnews (by simp [Value.oneCell']) (by omega) (by simp only [maxLen]; omega) (by omega) ?_
       intro v3 w3 hown hgr))
  rcases hown.2 with ⟨_, h0⟩ | ⟨g, cap, cur, rfl, hge, hcur, hcap, _, hsz, htk⟩
  · omega
  · have hb0 := (Below.refl w.heap.size w).alloc (Nat.le_refl _) (.cells #[] 80)
    have hb1 := below_none hb0 hgr hb0.size
    have hgw : w.heap.size ≤ g := Nat.le_trans hb0.size hge
    have hcu : cur = uArr ws ++ (cur.toList.drop n).toArray := by
      apply Array.toList_inj.1
      have h3 := List.take_append_drop n cur.toList
      rw [show (0 + n) * 1 = n by omega] at htk
      rw [htk] at h3
      simpa [uArr] using h3.symm
    have hB : Blk w3 g 80 (uArr ws ++ (cur.toList.drop n).toArray) := by rw [← hcu]; exact hcur
    rw [Nat.zero_add] at hcap ⊢
    clear hown hcur hcu htk hsz hnews
    go_wp2_with (fail)
    go_ret
    exact ⟨g, _, _, rfl, hgw, hB, hb1⟩
end Br
end Go.Proofs.YtkbfmogjhjdjmaaDoor
-- the text BrG
namespace Go.Proofs.YtkbfmogjhjdjmaaDoor
open Go.RowKit
namespace Br
open Bu (natI natI_at)
def kOf (ws : List Nat) : Nat := ws.findIdx leafB
def firstB (s : Nat) : Nat := ((List.range 9).find? fun k => s.testBit k).getD 0
def toOf (ws : List Nat) : Nat := firstB (ws.getD (kOf ws) 0)
def pruW (ws : List Nat) : Nat → List Nat
  | 0 => ws
  | i + 1 => tieW (pruW ws i) (kOf (pruW ws i)) (toOf (pruW ws i))
def pruL (ws : List Nat) : Nat → List Nat
  | 0 => []
  | i + 1 => pruL ws i ++ [toOf (pruW ws i)]
/-- one step can be made -/
structure OkS (n : Nat) (u : List Nat) : Prop where
  kn : kOf u < n
  tn : toOf u < n
  l1 : leafB (u.getD (kOf u) 0) = true
  l2 : ∀ j, j < kOf u → leafB (u.getD j 0) = false
  b1 : (u.getD (kOf u) 0).testBit (toOf u) = true
  b2 : ∀ j, j < toOf u → (u.getD (kOf u) 0).testBit j = false
  sm : ∀ x ∈ u, x < 512
theorem pru_len (ws : List Nat) (i : Nat) : (pruW ws i).length = ws.length := by
  induction i with
  | zero => rfl
  | succ i ih => rw [pruW, tieW, end_len, end_len, ih]
theorem own_mono' {w : World} {b b' : Nat} {v : Value} {xs : List Int} (h : OwnI w b v xs) (hle : b' ≤ b) : OwnI w b' v xs := by
  refine ⟨h.1, ?_⟩
  rcases h.2 with h0 | ⟨g, cap, cur, e, hb, r⟩
  · exact .inl h0
  · exact .inr ⟨g, cap, cur, e, Nat.le_trans hle hb, r⟩
set_option maxRecDepth 100000 in
set_option maxHeartbeats 2000000 in
theorem ask_ok (gw n c : Nat) (ws : List Nat) (hl : ws.length = n) (h2 : 2 ≤ n) (hn : n ≤ 9) (hP : ∀ i, i < n - 2 → OkS n (pruW ws i)) (w : World) (hW : Blk w gw 80 (uArr ws)) :
    Calls Tryd.prog 112 #[.agg #[], .slice (some ⟨gw, 0, none⟩) n c] w fun e w' => (∃ A cp, e = .returned (.iface 38 (.slice A (n - 2) cp)) ∧ RInts w' w'.heap.size A (n - 2) (natI (pruL ws (n - 2)))) ∧ Below w.heap.size w w' := by
  have cc := Lib.hid (fun w' (h : Blk w' gw 80 (uArr ws)) => clone_ok gw n c ws hl (by omega) hn w' h)
  have hPH := Lib.hid hP
  have hlH := Lib.hid hl
  obtain ⟨m, hm⟩ : ∃ m, n - 2 = m := ⟨_, rfl⟩
  have hmi : (n : Int) - 2 = m := by omega
  rw [hm] at hPH ⊢
  obtain ⟨R, hR⟩ : ∃ R, pruL ws m = R := ⟨_, rfl⟩
  rw [hR]
  have hRH := Lib.hid hR
  have hW1 := hW.alloc (.cells #[] 86)
  have hb1 := (Below.refl w.heap.size w).alloc (Nat.le_refl _) (.cells #[] 86)
  have hpl : ∀ i, (pruL ws i).length = i := fun i => by
    induction i with
    | zero => rfl
    | succ i ih => rw [pruL, List.length_append, ih]; rfl
  have hplH := Lib.hid hpl
  clear hP hl hR hm hpl
  go_enter Tryd.func112, Tryd.ntmps112
  go_wp2_with (first
    | (go_at_call 113; (with_reducible refine (cc.out _ hW1).mono ?_); rintro e w2 ⟨g, c2, ext, rfl, hge, hB2, hb2⟩
       have hbe2 := hb1.trans (hb2.mono hb1.size)
       have hgw : w.heap.size ≤ g := Nat.le_trans hb1.size hge
       clear hb2 hge))
  have hO3 := Bu.OwnI_empty w2
  have hO3' := own_mono' hO3 hbe2.size
  have hB3 := hB2.alloc (.cells #[] 3)
  have hbe3 := hbe2.alloc hbe2.size (.cells #[] 3)
  clear hO3 hB2 hbe2 hb1 hW1 cc
  go_loopw [5, 14] (fun o v wr => ∃ i : Nat, i ≤ m ∧ v = .int .i64 i ∧ OwnI wr w.heap.size o (natI (pruL ws i)) ∧ Blk wr g 80 (uArr (pruW ws i) ++ ext) ∧ Below w.heap.size w wr) (fun _ v _ => m - (intOf v).toNat)
  case atStart => exact ⟨0, by omega, rfl, hO3', hB3, hbe3⟩
  case round =>
    clear hO3' hB3 hbe3
    obtain ⟨i, hi, rfl, hO, hB, hb⟩ := hrel
    obtain ⟨wa, rfl⟩ : ∃ x, x = wr := ⟨wr, rfl⟩
    by_cases hlt : i < m
    · have hlti : (i : Int) < m := by omega
      have hok := Lib.hid (hPH.out i hlt)
      have hul : (pruW ws i).length = n := by rw [pru_len, hlH.out]
      have hpw : pruW ws (i + 1) = tieW (pruW ws i) (kOf (pruW ws i)) (toOf (pruW ws i)) := rfl
      have hpq : pruL ws (i + 1) = pruL ws i ++ [toOf (pruW ws i)] := rfl
      obtain ⟨u, hu⟩ : ∃ u, pruW ws i = u := ⟨_, rfl⟩
      rw [hu] at hok hul hpw hpq hB
      obtain ⟨k, hk⟩ : ∃ k, kOf u = k := ⟨_, rfl⟩
      obtain ⟨tt, hto⟩ : ∃ k, toOf u = k := ⟨_, rfl⟩
      rw [hk, hto] at hpw
      rw [hto] at hpq
      have hkn := hok.out.kn
      have htn := hok.out.tn
      have h1 := hok.out.l1
      have h3 := hok.out.l2
      have h4 := hok.out.b1
      have h5 := hok.out.b2
      rw [hk] at hkn h1 h3 h4 h5
      rw [hto] at htn h4 h5
      obtain ⟨x, hx⟩ : ∃ x, u.getD k 0 = x := ⟨_, rfl⟩
      have hx5 : x < 512 := by rw [← hx]; exact hok.out.sm _ (List.mem_of_getElem? (getD_at (by omega)))
      have hcx : ∀ w', Blk w' g 80 (uArr u ++ ext) → w'.cell? ⟨g, k, none⟩ = some (.int .u16 (x : Int)) := fun w' h => by rw [h.cell, uX_at (by omega), getD_at (by omega), hx]; rfl
      have hc := hcx wa hB
      have ci := Lib.hid (idx_ok g n c2 k u ext hul hn hkn hok.out.sm h1 h3 wa hB)
      rw [hx] at h4 h5
      have cf := Lib.hid (first_ok x tt (by omega) (by omega) h4 h5 wa)
      have ct := Lib.hid (tie_ext g n c2 k tt u ext hul hn hkn htn hok.out.sm wa hB)
      have hki : (k : Int) < n := by omega
      have hk0 : (0 : Int) ≤ k := by omega
      have hpwH := Lib.hid hpw
      have hpqH := Lib.hid hpq
      have hne := hO.blk_ne hB (by decide)
      have e1 : natI (pruL ws i) ++ [(tt : Int)] = natI (pruL ws (i + 1)) := by rw [hpq]; simp [natI]
      have e1H := Lib.hid e1
      have hlen : (natI (pruL ws i)).length ≤ 1000000000 := by
        have := hplH.out i
        simp only [natI, List.length_map]
        omega
      clear hpw hpq hk hto hx hcx h1 h3 h4 h5 hu hul e1
      go_wp2_with (first
        | (go_at_call 114; (with_reducible refine ci.out.mono ?_); rintro e wz ⟨rfl, hwz⟩; replace hwz := hwz.symm; subst hwz)
        | (go_at_call 111; (with_reducible refine cf.out.mono ?_); rintro e wz ⟨rfl, hwz⟩; replace hwz := hwz.symm; subst hwz)
        | (go_at_call 41; (with_reducible refine ct.out.mono ?_); rintro e w5 ⟨rfl, hB5, hF5⟩
           have hO5 : OwnI w5 w.heap.size u5 (natI (pruL ws i)) := hO.keep fun q hq => hF5.block q (hO.lt hq) (fun e => hne (by rw [hq, e]))
           have hb5 := hF5.below hb hb.size (fun j hj => by rw [hj]; exact hgw)
           clear hB hO hb)
        | (at_builtin
           refine wpList_push rfl _ _ rfl rfl (hO5.none_ (World.grownBy_alloc w5 _ none)) w5.heap.size 1 (tt : Int) rfl (Blk.new w5 _ _) hlen (by show _ ≤ (w5.heap.push _).size; have := hb5.size; simp; omega) ?_
           intro g6 cap6 w6 ho6 hgr6 hat6 _
           have hb6 := (hb5.alloc hb5.size (.cells #[.int .i64 (tt : Int)] 3)).grown hgr6 (by show _ ≤ (w5.heap.push _).size; have := hb5.size; simp; omega) (fun g hg => hO5.ge hg)
           have hB6 := (hB5.alloc (.cells #[.int .i64 (tt : Int)] 3)).grown hgr6 (fun e => hne e.symm)
           rw [e1H.out] at ho6))
      go_roundw
      case rel => exact ⟨i + 1, by omega, by go_num, ho6, by rw [hpwH.out]; exact hB6, hb6⟩
      case measure => simp only [intOf]; omega
    · have hlti : ¬ (i : Int) < m := by omega
      obtain rfl : i = m := by omega
      rw [hRH.out] at hO
      have hRl : R.length = i := by rw [← hRH.out]; exact hplH.out i
      obtain ⟨A, cp, rfl, hr⟩ := hO.reads
      have el : (natI R).length = i := by rw [← hRl]; simp [natI]
      rw [el] at hr ⊢
      go_wp2_with (fail)
      go_ret
      exact ⟨⟨_, ⟨_, rfl⟩, hr⟩, hb⟩
end Br
end Go.Proofs.YtkbfmogjhjdjmaaDoor
-- the text BrH
namespace Go.Proofs.YtkbfmogjhjdjmaaDoor
open Go.RowKit
namespace Br
open Bu (natI natI_at)
set_option maxRecDepth 100000 in
set_option maxHeartbeats 1000000 in
theorem asked_ok (n : Nat) (ts : List (Nat × Nat)) (hT : Tree n ts) (h2 : 2 ≤ n) (hP : ∀ i, i < n - 2 → OkS n (pruW (woodT n ts ts.length) i)) (At : Option Addr) (cc : Nat) (w : World) (hW : TieS w At ts) :
    Calls Tryd.prog 36 #[.agg #[.int .i64 (n : Int), .slice At ts.length cc], .iface 86 (.agg #[])] w fun e w' => (∃ A cp, e = .returned (.tuple #[.iface 38 (.slice A (n - 2) cp), .int .i64 0]) ∧ RInts w' w'.heap.size A (n - 2) (natI (pruL (woodT n ts ts.length) (n - 2)))) ∧ Below w.heap.size w w' := by
  have cg := Lib.hid (fun w' (h : TieS w' At ts) => grown_ok n ts hT At cc w' h)
  have hl : (woodT n ts ts.length).length = n := woodI_len _ _
  obtain ⟨WS, hWS⟩ : ∃ x, woodT n ts ts.length = x := ⟨_, rfl⟩
  rw [hWS] at cg hP hl ⊢
  have h9 := hT.n9
  have ca := Lib.hid (fun gw c w' (h : Blk w' gw 80 (uArr WS)) => ask_ok gw n c WS hl h2 h9 hP w' h)
  obtain ⟨m, hm⟩ : ∃ m, ts.length = m := ⟨_, rfl⟩
  rw [hm] at cg ⊢
  have hWgt := Lib.hid (fun w' (hb : Below w.heap.size w w') => hW.below hb)
  clear hWS hP hT hm hW
  go_enter Tryd.func36, Tryd.ntmps36
  go_wp2_with (first
    | (with_reducible show wpList _ _ _ (⟨_, .box 33 (.tmp 0), _, _, _, _⟩ :: _) _ _
       refine wpList_box_blk rfl 33 _ rfl #[.int .i64 (n : Int), .slice At m cc] rfl ?_
       intro w1 g1 hG hgr hge
       have hx0 : w1.cell? ⟨g1, 0, none⟩ = some (.int .i64 (n : Int)) := hG.cell 0
       have hx1 : w1.cell? ⟨g1, 1, none⟩ = some (.slice At m cc) := hG.cell 1
       have hb1 := below_none (Below.refl w.heap.size w) hgr (Nat.le_refl _))
    | (go_at_call 24; (with_reducible refine (cg.out _ (hWgt.out _ hb1)).mono ?_); rintro e w2 ⟨gw, rfl, hgw, hB2, hb2⟩
       have hbe2 := hb1.trans (hb2.mono hb1.size))
    | (go_at_call 112; (with_reducible refine (ca.out _ _ _ hB2).mono ?_); rintro e w3 ⟨⟨A, cp, rfl, hr3⟩, hb3⟩
       have hbe3 := hbe2.trans (hb3.mono hbe2.size)))
  go_ret2
  exact ⟨⟨_, _, rfl, hr3⟩, hbe3⟩
theorem list_of (A : Option Addr) (n c : Nat) (w : World) : (Instr.typeAssert (.iface 38 (.slice A n c)) 20 38 true).run Tryd.prog w = .ok (.tuple #[.slice A n c, .bool true]) w := by kernel_rfl
set_option maxRecDepth 100000 in
set_option maxHeartbeats 1000000 in
theorem numbers_ok (n : Nat) (ts : List (Nat × Nat)) (hT : Tree n ts) (h2 : 2 ≤ n) (hP : ∀ i, i < n - 2 → OkS n (pruW (woodT n ts ts.length) i)) (At : Option Addr) (cc : Nat) (w : World) (hW : TieS w At ts) :
    Calls Tryd.prog 23 #[.agg #[.int .i64 (n : Int), .slice At ts.length cc], .iface 86 (.agg #[])] w fun e w' => (∃ A cp, e = .returned (.tuple #[.slice A (n - 2) cp, .int .i64 0]) ∧ RInts w' w'.heap.size A (n - 2) (natI (pruL (woodT n ts ts.length) (n - 2)))) ∧ Below w.heap.size w w' := by
  have cg := Lib.hid (fun w' (h : TieS w' At ts) => asked_ok n ts hT h2 hP At cc w' h)
  obtain ⟨WS, hWS⟩ : ∃ x, woodT n ts ts.length = x := ⟨_, rfl⟩
  rw [hWS] at cg ⊢
  obtain ⟨m, hm⟩ : ∃ m, ts.length = m := ⟨_, rfl⟩
  rw [hm] at cg ⊢
  have hWgt := Lib.hid (fun w' (hb : Below w.heap.size w w') => hW.below hb)
  clear hWS hP hT hm hW
  have hta := list_of
  go_enter Tryd.func23, Tryd.ntmps23
  go_wp2_with (first
    | (with_reducible show wpList _ _ _ (⟨_, .box 33 (.tmp 0), _, _, _, _⟩ :: _) _ _
       refine wpList_box_blk rfl 33 _ rfl #[.int .i64 (n : Int), .slice At m cc] rfl ?_
       intro w1 g1 hG hgr hge
       have hx0 : w1.cell? ⟨g1, 0, none⟩ = some (.int .i64 (n : Int)) := hG.cell 0
       have hx1 : w1.cell? ⟨g1, 1, none⟩ = some (.slice At m cc) := hG.cell 1
       have hb1 := below_none (Below.refl w.heap.size w) hgr (Nat.le_refl _))
    | (go_at_call 36; (with_reducible refine (cg.out _ (hWgt.out _ hb1)).mono ?_); rintro e w3 ⟨⟨A, cp, rfl, hr3⟩, hb3⟩
       have hbe3 := hb1.trans (hb3.mono hb1.size)))
  go_ret2
  exact ⟨⟨_, _, rfl, hr3⟩, hbe3⟩
set_option maxRecDepth 100000 in
set_option maxHeartbeats 1000000 in
theorem Write_ok (n : Nat) (ts : List (Nat × Nat)) (hT : Tree n ts) (h2 : 2 ≤ n) (hP : ∀ i, i < n - 2 → OkS n (pruW (woodT n ts ts.length) i)) (At : Option Addr) (cc : Nat) (w : World) (hW : TieS w At ts) :
    Calls Tryd.prog 32 #[.agg #[.int .i64 (n : Int), .slice At ts.length cc]] w fun e w' => (∃ A cp, e = .returned (.tuple #[.slice A (n - 2) cp, .int .i64 0]) ∧ RInts w' w'.heap.size A (n - 2) (natI (pruL (woodT n ts ts.length) (n - 2)))) ∧ Below w.heap.size w w' := by
  have cg := Lib.hid (fun w' (h : TieS w' At ts) => numbers_ok n ts hT h2 hP At cc w' h)
  obtain ⟨WS, hWS⟩ : ∃ x, woodT n ts ts.length = x := ⟨_, rfl⟩
  rw [hWS] at cg ⊢
  obtain ⟨m, hm⟩ : ∃ m, ts.length = m := ⟨_, rfl⟩
  rw [hm] at cg ⊢
  have hWgt := Lib.hid (fun w' (hb : Below w.heap.size w w') => hW.below hb)
  clear hWS hP hT hm hW
  go_enter Tryd.func32, Tryd.ntmps32
  go_wp2_with (first
    | (with_reducible show wpList _ _ _ (⟨_, .box 33 (.tmp 0), _, _, _, _⟩ :: _) _ _
       refine wpList_box_blk rfl 33 _ rfl #[.int .i64 (n : Int), .slice At m cc] rfl ?_
       intro w1 g1 hG hgr hge
       have hx0 : w1.cell? ⟨g1, 0, none⟩ = some (.int .i64 (n : Int)) := hG.cell 0
       have hx1 : w1.cell? ⟨g1, 1, none⟩ = some (.slice At m cc) := hG.cell 1
       have hb1 := below_none (Below.refl w.heap.size w) hgr (Nat.le_refl _))
    | (go_at_call 23; (with_reducible refine (cg.out _ (hWgt.out _ hb1)).mono ?_); rintro e w3 ⟨⟨A, cp, rfl, hr3⟩, hb3⟩
       have hbe3 := hb1.trans (hb3.mono hb1.size)))
  go_ret2
  exact ⟨⟨_, _, rfl, hr3⟩, hbe3⟩
end Br
end Go.Proofs.YtkbfmogjhjdjmaaDoor
-- the text BrI
namespace Go.Proofs.YtkbfmogjhjdjmaaDoor
open Go.RowKit
namespace Br
open Bu (natI natI_at)
/-- the degrees -/
def degW (ws : List Nat) : List Nat := ws.map fun x => (knotsL x).length
theorem deg_at {ws : List Nat} {i x : Nat} (h : ws[i]? = some x) : (degW ws).take (i + 1) = (degW ws).take i ++ [(knotsL x).length] := by
  rw [List.take_add_one]
  congr 1
  unfold degW
  rw [List.getElem?_map, h]
  rfl
theorem knots_len (s : Nat) : (knotsL s).length ≤ 9 := by
  unfold knotsL
  exact Nat.le_trans (List.length_filter_le _ _) (by simp)
set_option maxRecDepth 100000 in
set_option maxHeartbeats 1000000 in
theorem degAsk_ok (gw n c : Nat) (ws : List Nat) (hl : ws.length = n) (hn : n ≤ 9) (hws : ∀ x ∈ ws, x < 512) (w : World) (hW : Blk w gw 80 (uArr ws)) :
    Calls Tryd.prog 109 #[.agg #[], .slice (some ⟨gw, 0, none⟩) n c] w fun e w' => (∃ A cp, e = .returned (.iface 38 (.slice A n cp)) ∧ RInts w' w'.heap.size A n (natI (degW ws))) ∧ Below w.heap.size w w' := by
  have hWH := Lib.hid (fun w' (hb : Below w.heap.size w w') => hW.below hb hW.lt)
  have hwsH := Lib.hid hws
  obtain ⟨R, hR⟩ : ∃ R, degW ws = R := ⟨_, rfl⟩
  rw [hR]
  have hRl : R.length = n := by rw [← hR]; simp [degW, hl]
  have hst := Lib.hid (fun i x (h : ws[i]? = some x) => deg_at h)
  rw [hR] at hst
  have hb1 := (Below.refl w.heap.size w).alloc (Nat.le_refl _) (.cells #[] 60)
  clear hws hR hW
  go_enter Tryd.func109, Tryd.ntmps109
  go_wp2_with (fail)
  go_loopw [5, 10] (fun o v wr => ∃ i : Nat, i ≤ n ∧ v = .int .i64 i ∧ OwnI wr w.heap.size o (natI (R.take i)) ∧ Below w.heap.size w wr) (fun _ v _ => n - (intOf v).toNat)
  case atStart => exact ⟨0, by omega, rfl, OwnI.nil _ _, hb1⟩
  case round =>
    clear hb1
    obtain ⟨i, hi, rfl, ho, hb⟩ := hrel
    obtain ⟨wa, rfl⟩ : ∃ x, x = wr := ⟨wr, rfl⟩
    by_cases hlt : i < n
    · have hlti : (i : Int) < n := by omega
      obtain ⟨x, hx⟩ : ∃ x, ws[i]? = some x := ⟨_, List.getElem?_eq_getElem (by omega)⟩
      have hx5 := hwsH.out x (List.mem_of_getElem? hx)
      have hc : wa.cell? ⟨gw, i, none⟩ = some (.int .u16 (x : Int)) := by rw [(hWH.out wa hb).cell, uArr_at, hx]; rfl
      have cl := Lib.hid (list_any x (by omega) wa)
      have hs := hst.out i x hx
      have hk9 := knots_len x
      obtain ⟨d, hd⟩ : ∃ d, (knotsL x).length = d := ⟨_, rfl⟩
      rw [hd] at hs hk9
      have e1 : natI (R.take i) ++ [(d : Int)] = natI (R.take (i + 1)) := by rw [hs]; simp [natI]
      have e1H := Lib.hid e1
      have hlen : (natI (R.take i)).length ≤ 1000000000 := by simp [natI]; omega
      have hdH := Lib.hid hd
      clear hs hx e1 hd
      go_wp2_with (first
        | (go_at_call 37; (with_reducible refine cl.out.mono ?_); rintro e w2 ⟨⟨v2, rfl, ho2⟩, hb2⟩
           obtain ⟨A2, c2, rfl, _⟩ := ho2.reads
           rw [show (natI (knotsL x)).length = d by rw [← hdH.out]; simp [natI]]
           have ho3 := ho.callee hb2
           have hb3 := hb.trans (hb2.mono hb.size)
           clear ho2 hb2)
        | (at_builtin
           refine wpList_push rfl _ _ rfl rfl (ho3.none_ (World.grownBy_alloc w2 _ none)) w2.heap.size 1 (d : Int) rfl (Blk.new w2 _ _) hlen (by show _ ≤ (w2.heap.push _).size; have := hb3.size; simp; omega) ?_
           intro g6 cap6 w6 ho6 hgr6 hat6 _
           have hb6 := (hb3.alloc hb3.size (.cells #[.int .i64 (d : Int)] 3)).grown hgr6 (by show _ ≤ (w2.heap.push _).size; have := hb3.size; simp; omega) (fun g hg => ho3.ge hg)
           rw [e1H.out] at ho6))
      go_roundw
      case rel => exact ⟨i + 1, by omega, by go_num, ho6, hb6⟩
      case measure => simp only [intOf]; omega
    · have hlti : ¬ (i : Int) < n := by omega
      obtain rfl : i = n := by omega
      rw [List.take_of_length_le (by omega)] at ho
      obtain ⟨A, cp, rfl, hr⟩ := ho.reads
      have el : (natI R).length = i := by simp [natI, hRl]
      rw [el] at hr ⊢
      go_wp2_with (fail)
      go_ret
      exact ⟨⟨_, ⟨_, rfl⟩, hr⟩, hb⟩
end Br
end Go.Proofs.YtkbfmogjhjdjmaaDoor
-- the text BrK
namespace Go.Proofs.YtkbfmogjhjdjmaaDoor
open Go.RowKit
namespace Br
open Bu (natI natI_at)
set_option maxRecDepth 100000 in
set_option maxHeartbeats 1000000 in
theorem asked_deg (n : Nat) (ts : List (Nat × Nat)) (hT : Tree n ts) (At : Option Addr) (cc : Nat) (w : World) (hW : TieS w At ts) :
    Calls Tryd.prog 36 #[.agg #[.int .i64 (n : Int), .slice At ts.length cc], .iface 60 (.agg #[])] w fun e w' => (∃ A cp, e = .returned (.tuple #[.iface 38 (.slice A n cp), .int .i64 0]) ∧ RInts w' w'.heap.size A n (natI (degW (woodT n ts ts.length)))) ∧ Below w.heap.size w w' := by
  have cg := Lib.hid (fun w' (h : TieS w' At ts) => grown_ok n ts hT At cc w' h)
  have hl : (woodT n ts ts.length).length = n := woodI_len _ _
  have hsm : ∀ x ∈ woodT n ts ts.length, x < 512 := fun x hx => by
    have h3 := wood_small hT ts.length (Nat.le_refl _) x hx
    have h4 : 2 ^ n ≤ 2 ^ 9 := Nat.pow_le_pow_right (by omega) hT.n9
    omega
  obtain ⟨WS, hWS⟩ : ∃ x, woodT n ts ts.length = x := ⟨_, rfl⟩
  rw [hWS] at cg hl hsm ⊢
  have h9 := hT.n9
  have ca := Lib.hid (fun gw c w' (h : Blk w' gw 80 (uArr WS)) => degAsk_ok gw n c WS hl h9 hsm w' h)
  obtain ⟨m, hm⟩ : ∃ m, ts.length = m := ⟨_, rfl⟩
  rw [hm] at cg ⊢
  have hWgt := Lib.hid (fun w' (hb : Below w.heap.size w w') => hW.below hb)
  clear hWS hT hm hW hsm
  go_enter Tryd.func36, Tryd.ntmps36
  go_wp2_with (first
    | (with_reducible show wpList _ _ _ (⟨_, .box 33 (.tmp 0), _, _, _, _⟩ :: _) _ _
       refine wpList_box_blk rfl 33 _ rfl #[.int .i64 (n : Int), .slice At m cc] rfl ?_
       intro w1 g1 hG hgr hge
       have hx0 : w1.cell? ⟨g1, 0, none⟩ = some (.int .i64 (n : Int)) := hG.cell 0
       have hx1 : w1.cell? ⟨g1, 1, none⟩ = some (.slice At m cc) := hG.cell 1
       have hb1 := below_none (Below.refl w.heap.size w) hgr (Nat.le_refl _))
    | (go_at_call 24; (with_reducible refine (cg.out _ (hWgt.out _ hb1)).mono ?_); rintro e w2 ⟨gw, rfl, hgw, hB2, hb2⟩
       have hbe2 := hb1.trans (hb2.mono hb1.size))
    | (go_at_call 109; (with_reducible refine (ca.out _ _ _ hB2).mono ?_); rintro e w3 ⟨⟨A, cp, rfl, hr3⟩, hb3⟩
       have hbe3 := hbe2.trans (hb3.mono hbe2.size)))
  go_ret2
  exact ⟨⟨_, _, rfl, hr3⟩, hbe3⟩
set_option maxRecDepth 100000 in
set_option maxHeartbeats 1000000 in
theorem numbers_deg (n : Nat) (ts : List (Nat × Nat)) (hT : Tree n ts) (At : Option Addr) (cc : Nat) (w : World) (hW : TieS w At ts) :
    Calls Tryd.prog 23 #[.agg #[.int .i64 (n : Int), .slice At ts.length cc], .iface 60 (.agg #[])] w fun e w' => (∃ A cp, e = .returned (.tuple #[.slice A n cp, .int .i64 0]) ∧ RInts w' w'.heap.size A n (natI (degW (woodT n ts ts.length)))) ∧ Below w.heap.size w w' := by
  have cg := Lib.hid (fun w' (h : TieS w' At ts) => asked_deg n ts hT At cc w' h)
  obtain ⟨WS, hWS⟩ : ∃ x, woodT n ts ts.length = x := ⟨_, rfl⟩
  rw [hWS] at cg ⊢
  obtain ⟨m, hm⟩ : ∃ m, ts.length = m := ⟨_, rfl⟩
  rw [hm] at cg ⊢
  have hWgt := Lib.hid (fun w' (hb : Below w.heap.size w w') => hW.below hb)
  have hta := list_of
  clear hWS hT hm hW
  go_enter Tryd.func23, Tryd.ntmps23
  go_wp2_with (first
    | (with_reducible show wpList _ _ _ (⟨_, .box 33 (.tmp 0), _, _, _, _⟩ :: _) _ _
       refine wpList_box_blk rfl 33 _ rfl #[.int .i64 (n : Int), .slice At m cc] rfl ?_
       intro w1 g1 hG hgr hge
       have hx0 : w1.cell? ⟨g1, 0, none⟩ = some (.int .i64 (n : Int)) := hG.cell 0
       have hx1 : w1.cell? ⟨g1, 1, none⟩ = some (.slice At m cc) := hG.cell 1
       have hb1 := below_none (Below.refl w.heap.size w) hgr (Nat.le_refl _))
    | (go_at_call 36; (with_reducible refine (cg.out _ (hWgt.out _ hb1)).mono ?_); rintro e w3 ⟨⟨A, cp, rfl, hr3⟩, hb3⟩
       have hbe3 := hb1.trans (hb3.mono hb1.size)))
  go_ret2
  exact ⟨⟨_, _, rfl, hr3⟩, hbe3⟩
set_option maxRecDepth 100000 in
set_option maxHeartbeats 1000000 in
theorem Degrees_deg (n : Nat) (ts : List (Nat × Nat)) (hT : Tree n ts) (At : Option Addr) (cc : Nat) (w : World) (hW : TieS w At ts) :
    Calls Tryd.prog 8 #[.agg #[.int .i64 (n : Int), .slice At ts.length cc]] w fun e w' => (∃ A cp, e = .returned (.tuple #[.slice A n cp, .int .i64 0]) ∧ RInts w' w'.heap.size A n (natI (degW (woodT n ts ts.length)))) ∧ Below w.heap.size w w' := by
  have cg := Lib.hid (fun w' (h : TieS w' At ts) => numbers_deg n ts hT At cc w' h)
  obtain ⟨WS, hWS⟩ : ∃ x, woodT n ts ts.length = x := ⟨_, rfl⟩
  rw [hWS] at cg ⊢
  obtain ⟨m, hm⟩ : ∃ m, ts.length = m := ⟨_, rfl⟩
  rw [hm] at cg ⊢
  have hWgt := Lib.hid (fun w' (hb : Below w.heap.size w w') => hW.below hb)
  clear hWS hT hm hW
  go_enter Tryd.func8, Tryd.ntmps8
  go_wp2_with (first
    | (with_reducible show wpList _ _ _ (⟨_, .box 33 (.tmp 0), _, _, _, _⟩ :: _) _ _
       refine wpList_box_blk rfl 33 _ rfl #[.int .i64 (n : Int), .slice At m cc] rfl ?_
       intro w1 g1 hG hgr hge
       have hx0 : w1.cell? ⟨g1, 0, none⟩ = some (.int .i64 (n : Int)) := hG.cell 0
       have hx1 : w1.cell? ⟨g1, 1, none⟩ = some (.slice At m cc) := hG.cell 1
       have hb1 := below_none (Below.refl w.heap.size w) hgr (Nat.le_refl _))
    | (go_at_call 23; (with_reducible refine (cg.out _ (hWgt.out _ hb1)).mono ?_); rintro e w3 ⟨⟨A, cp, rfl, hr3⟩, hb3⟩
       have hbe3 := hb1.trans (hb3.mono hb1.size)))
  go_ret2
  exact ⟨⟨_, _, rfl, hr3⟩, hbe3⟩
end Br
end Go.Proofs.YtkbfmogjhjdjmaaDoor
-- the text BrL
namespace Go.Proofs.YtkbfmogjhjdjmaaDoor
open Go.RowKit
namespace Br
open Bu (natI natI_at)
/-- the first walk that arrives -/
def walkL (f : Nat → List Nat) (b : Int) : List Nat → List Nat
  | [] => []
  | x :: l => if (x : Int) = b then walkL f b l else if f x = [] then walkL f b l else f x
def walkF (ws : List Nat) (dst : Nat) : Nat → Nat → Int → List Nat
  | 0, _, _ => []
  | u + 1, a, b => if a = dst then [a] else if walkL (fun x => walkF ws dst u x a) b (knotsL (ws.getD a 0)) = [] then [] else a :: walkL (fun x => walkF ws dst u x a) b (knotsL (ws.getD a 0))
/-- the fuel serves -/
def walkOk (ws : List Nat) (dst : Nat) : Nat → Nat → Int → Bool
  | 0, _, _ => false
  | u + 1, a, b => a == dst || (knotsL (ws.getD a 0)).all fun x => decide ((x : Int) = b) || walkOk ws dst u x a
theorem walkL_at {f : Nat → List Nat} {b : Int} {l : List Nat} {i x : Nat} (h : l[i]? = some x) : walkL f b (l.drop i) = if (x : Int) = b then walkL f b (l.drop (i + 1)) else if f x = [] then walkL f b (l.drop (i + 1)) else f x := by
  obtain ⟨hj, he⟩ := List.getElem?_eq_some_iff.1 h
  rw [List.drop_eq_getElem_cons hj, he, walkL]
theorem walkL_len {f : Nat → List Nat} {b : Int} {B : Nat} (h : ∀ x, (f x).length ≤ B) : ∀ l, (walkL f b l).length ≤ B := by
  intro l
  induction l with
  | nil => exact Nat.zero_le _
  | cons x l ih =>
    rw [walkL]
    split
    · exact ih
    · split
      · exact ih
      · exact h x
theorem walkF_len (ws : List Nat) (dst : Nat) : ∀ (u a : Nat) (b : Int), (walkF ws dst u a b).length ≤ u := by
  intro u
  induction u with
  | zero => intro a b; exact Nat.le_refl _
  | succ u ih =>
    intro a b
    rw [walkF]
    split
    · simp
    · split
      · simp
      · have := walkL_len (b := b) (fun x => ih x (a : Int)) (knotsL (ws.getD a 0))
        simp only [List.length_cons]
        omega
/-- a list of knots, nil if there is none -/
def RetW (w' : World) (v : Value) (l : List Nat) : Prop := (l = [] → v = .slice none 0 0) ∧ (l ≠ [] → ∃ a cp, v = .slice (some a) l.length cp ∧ RInts w' w'.heap.size (some a) l.length (natI l))
theorem RetW.below {w w' : World} {v : Value} {l : List Nat} (h : RetW w v l) (hb : Below w.heap.size w w') : RetW w' v l :=
  ⟨h.1, fun hl => by
    obtain ⟨a, cp, h1, h2⟩ := h.2 hl
    exact ⟨a, cp, h1, (h2.below hb).more hb.size⟩⟩
end Br
end Go.Proofs.YtkbfmogjhjdjmaaDoor
-- the text BrM
namespace Go.Proofs.YtkbfmogjhjdjmaaDoor
open Go.RowKit
namespace Br
open Bu (natI natI_at)
/-- the way between two knots -/
def wayW (ws : List Nat) (src dst : Nat) : List Nat := walkF ws dst ws.length src (-1)
structure WayOk (n : Nat) (ws : List Nat) (src dst : Nat) : Prop where
  sn : src < n
  dn : dst < n
  ok : walkOk ws dst n src (-1) = true
  ne : wayW ws src dst ≠ []
end Br
end Go.Proofs.YtkbfmogjhjdjmaaDoor
-- the text BrN
namespace Go.Proofs.YtkbfmogjhjdjmaaDoor
open Go.RowKit
namespace Br
open Bu (natI natI_at)
end Br
end Go.Proofs.YtkbfmogjhjdjmaaDoor
-- the text BrO
namespace Go.Proofs.YtkbfmogjhjdjmaaDoor
open Go.RowKit
namespace Br
open Bu (natI natI_at)
set_option maxRecDepth 100000 in
set_option maxHeartbeats 1000000 in
theorem Check_ok (n : Nat) (ts : List (Nat × Nat)) (hT : Tree n ts) (At : Option Addr) (cc : Nat) (w : World) (hW : TieS w At ts) :
    Calls Tryd.prog 10 #[.agg #[.int .i64 (n : Int), .slice At ts.length cc]] w fun e w' => e = .returned (.int .i64 0) ∧ Below w.heap.size w w' := by
  have cg := Lib.hid (fun w' (h : TieS w' At ts) => grown_ok n ts hT At cc w' h)
  obtain ⟨m, hm⟩ : ∃ m, ts.length = m := ⟨_, rfl⟩
  rw [hm] at cg ⊢
  have hWgt := Lib.hid (fun w' (hb : Below w.heap.size w w') => hW.below hb)
  clear hT hm hW
  go_enter Tryd.func10, Tryd.ntmps10
  go_wp2_with (first
    | (with_reducible show wpList _ _ _ (⟨_, .box 33 (.tmp 0), _, _, _, _⟩ :: _) _ _
       refine wpList_box_blk rfl 33 _ rfl #[.int .i64 (n : Int), .slice At m cc] rfl ?_
       intro w1 g1 hG hgr hge
       have hx0 : w1.cell? ⟨g1, 0, none⟩ = some (.int .i64 (n : Int)) := hG.cell 0
       have hx1 : w1.cell? ⟨g1, 1, none⟩ = some (.slice At m cc) := hG.cell 1
       have hb1 := below_none (Below.refl w.heap.size w) hgr (Nat.le_refl _))
    | (go_at_call 24; (with_reducible refine (cg.out _ (hWgt.out _ hb1)).mono ?_); rintro e w2 ⟨gw, rfl, hgw, hB2, hb2⟩
       have hbe2 := hb1.trans (hb2.mono hb1.size)))
  go_ret
  exact ⟨rfl, hbe2⟩
end Br
end Go.Proofs.YtkbfmogjhjdjmaaDoor
