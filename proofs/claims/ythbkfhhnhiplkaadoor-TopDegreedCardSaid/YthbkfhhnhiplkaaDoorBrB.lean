/- branch's sets of knots: has, list. -/
import Derived.Test.YthbkfhhnhiplkaaDoorBrA
import Derived.Test.YthbkfhhnhiplkaaDoorBits
namespace Go.Proofs.YthbkfhhnhiplkaaDoor
open Go.RowKit
namespace Br
open Bu (natI natI_at)
theorem ofInt_u16 (a : Nat) (ha : a < 65536) : (BitVec.ofInt 16 (a : Int)).toNat = a := by
  rw [BitVec.toNat_ofInt]
  omega
theorem wrap_u16 (a : Nat) (ha : a < 65536) : IntKind.u16.wrap (a : Int) = a := by
  simp only [IntKind.wrap, IntKind.bits, IntKind.signed]
  simp
  omega
theorem u16_and (a b : Nat) (ha : a < 65536) (hb : b < 65536) : bits .and .u16 (a : Int) (b : Int) = ((a &&& b : Nat) : Int) := by
  have hx : a &&& b < 2 ^ 16 := Nat.and_lt_two_pow _ (by omega)
  show IntKind.u16.wrap ((BitVec.ofInt 16 (a : Int) &&& BitVec.ofInt 16 (b : Int)).toNat : Int) = _
  rw [BitVec.toNat_and, ofInt_u16 a ha, ofInt_u16 b hb]
  exact wrap_u16 _ (by omega)
theorem u16_or (a b : Nat) (ha : a < 65536) (hb : b < 65536) : bits .or .u16 (a : Int) (b : Int) = ((a ||| b : Nat) : Int) := by
  have hx : a ||| b < 2 ^ 16 := Nat.or_lt_two_pow (by omega) (by omega)
  show IntKind.u16.wrap ((BitVec.ofInt 16 (a : Int) ||| BitVec.ofInt 16 (b : Int)).toNat : Int) = _
  rw [BitVec.toNat_or, ofInt_u16 a ha, ofInt_u16 b hb]
  exact wrap_u16 _ (by omega)
theorem u16_xor (a b : Nat) (ha : a < 65536) (hb : b < 65536) : bits .xor .u16 (a : Int) (b : Int) = ((a ^^^ b : Nat) : Int) := by
  have hx : a ^^^ b < 2 ^ 16 := Nat.xor_lt_two_pow (by omega) (by omega)
  show IntKind.u16.wrap ((BitVec.ofInt 16 (a : Int) ^^^ BitVec.ofInt 16 (b : Int)).toNat : Int) = _
  rw [BitVec.toNat_xor, ofInt_u16 a ha, ofInt_u16 b hb]
  exact wrap_u16 _ (by omega)
theorem has_val (s k : Nat) (hs : s < 65536) : (bits .and .u16 ((s : Int) / 2 ^ k) 1 == 1) = s.testBit k := by
  have e1 : (s : Int) / 2 ^ k = ((s / 2 ^ k : Nat) : Int) := by simp
  have h1 : s / 2 ^ k < 65536 := Nat.lt_of_le_of_lt (Nat.div_le_self _ _) hs
  rw [e1, show (1 : Int) = ((1 : Nat) : Int) from rfl, u16_and _ _ h1 (by omega), Nat.and_one_is_mod, Nat.testBit_eq_decide_div_mod_eq]
  generalize s / 2 ^ k % 2 = q
  by_cases h : q = 1
  · simp [h]
  · simp [h]
    omega
/-- a knot is in a set -/
theorem has_any (s k : Nat) (hs : s < 65536) (hk : k ≤ 8) (w : World) : Calls Tryd.prog 57 #[.int .u16 (s : Int), .int .i64 (k : Int)] w fun e w' => e = .returned (.bool (s.testBit k)) ∧ w' = w := by
  go_enter Tryd.func57, Tryd.ntmps57
  go_wp2_with (fail)
  rw [has_val s k hs]
  go_ret
  exact ⟨rfl, rfl⟩
/-- the knots of a set -/
def knotsL (s : Nat) : List Nat := (List.range 9).filter fun k => s.testBit k
theorem knots_step (s i : Nat) : (List.range (i + 1)).filter (fun k => s.testBit k) = (List.range i).filter (fun k => s.testBit k) ++ (if s.testBit i then [i] else []) := by
  rw [List.range_succ, List.filter_append]
  congr 1
  by_cases h : s.testBit i <;> simp [h]
set_option maxRecDepth 100000 in
set_option maxHeartbeats 1000000 in
theorem list_any (s : Nat) (hs : s < 65536) (w : World) : Calls Tryd.prog 48 #[.int .u16 (s : Int)] w fun e w' => (∃ v, e = .returned v ∧ OwnI w' w.heap.size v (natI (knotsL s))) ∧ Below w.heap.size w w' := by
  have ch := Lib.hid (fun (k : Nat) (hk : k ≤ 8) w' => has_any s k hs hk w')
  obtain ⟨R, hR⟩ : ∃ R, knotsL s = R := ⟨_, rfl⟩
  rw [hR]
  have hRH := Lib.hid hR
  clear hR
  go_enter Tryd.func48, Tryd.ntmps48
  go_wp2_with (fail)
  go_loopw [3, 5] (fun o v wr => ∃ (i : Nat) (acc : List Nat), i ≤ 9 ∧ v = .int .i64 i ∧ acc.length ≤ i ∧ OwnI wr w.heap.size o (natI acc) ∧ Hid ((List.range i).filter (fun k => s.testBit k) = acc) ∧ Below w.heap.size w wr) (fun _ v _ => 9 - (intOf v).toNat)
  case atStart => exact ⟨0, [], by omega, rfl, Nat.le_refl _, OwnI.nil _ _, Lib.hid rfl, Below.refl _ _⟩
  case round =>
    obtain ⟨i, acc, hi, rfl, hal, ho, hE, hb⟩ := hrel
    obtain ⟨wa, rfl⟩ : ∃ x, x = wr := ⟨wr, rfl⟩
    by_cases hlt : i < 9
    · have hlti : (i : Int) < 9 := by omega
      have hst := knots_step s i
      rw [hE.out] at hst
      have ch1 := Lib.hid (ch.out i (by omega) wa)
      obtain ⟨q, hq⟩ : ∃ q, s.testBit i = q := ⟨_, rfl⟩
      rw [hq] at ch1 hst
      clear hq
      cases q with
      | true =>
        rw [if_pos rfl] at hst
        have hN := Lib.hid hst
        have e1 : natI acc ++ [(i : Int)] = natI (acc ++ [i]) := by simp [natI]
        have hlen : (natI acc).length ≤ 1000000000 := by simp [natI]; omega
        clear hst
        go_wp2_with (first
          | (go_at_call 57; (with_reducible refine ch1.out.mono ?_); rintro e wz ⟨rfl, hwz⟩; replace hwz := hwz.symm; subst hwz)
          | (at_builtin
             refine wpList_push rfl _ _ rfl rfl (ho.none_ (World.grownBy_alloc wa _ none)) wa.heap.size 1 (i : Int) rfl (Blk.new wa _ _) hlen (by show _ ≤ (wa.heap.push _).size; have := hb.size; simp; omega) ?_
             intro g6 cap6 w6 ho6 hgr6 hat6 _
             have hb6 := (hb.alloc hb.size (.cells #[.int .i64 (i : Int)] 3)).grown hgr6 (by show _ ≤ (wa.heap.push _).size; have := hb.size; simp; omega) (fun g hg => ho.ge hg)
             rw [e1] at ho6))
        go_roundw
        case rel => exact ⟨i + 1, acc ++ [i], by omega, by go_num, by simp; omega, ho6, hN, hb6⟩
        case measure => simp only [intOf]; omega
      | false =>
        rw [if_neg (by decide), List.append_nil] at hst
        have hN := Lib.hid hst
        clear hst
        go_wp2_with (first
          | (go_at_call 57; (with_reducible refine ch1.out.mono ?_); rintro e wz ⟨rfl, hwz⟩; replace hwz := hwz.symm; subst hwz))
        go_roundw
        case rel => exact ⟨i + 1, acc, by omega, by go_num, by omega, ho, hN, hb⟩
        case measure => simp only [intOf]; omega
    · have hlti : ¬ (i : Int) < 9 := by omega
      obtain rfl : i = 9 := by omega
      have hE2 : acc = R := by rw [← hE.out, ← hRH.out]; rfl
      rw [hE2] at ho
      clear hE2 hE
      go_wp2_with (fail)
      go_ret
      exact ⟨⟨_, rfl, ho⟩, hb⟩
end Br
end Go.Proofs.YthbkfhhnhiplkaaDoor
