/- The laws without the reference: positions as sets of bits; given and free walked; ways and layers on such sets. -/
import Derived.Test.YtjhcemhnnkcjaaaDoorLawA
import Derived.Deep.QuietTactic
import Derived.BigQuiet
namespace Go.Proofs.YtjhcemhnnkcjaaaDoor
open Go.RowKit
/-- the position of some rings that a number's bits say -/
def bitS (r s : Nat) : List Int := (List.range r).map fun k => ((s / 2 ^ k % 2 : Nat) : Int)
theorem bitS_length (r s : Nat) : (bitS r s).length = r := by simp [bitS]
theorem bitS_at {r s k : Nat} (h : k < r) : (bitS r s)[k]? = some ((s / 2 ^ k % 2 : Nat) : Int) := by simp [bitS, List.getElem?_range h]
theorem bitS_bin (r s : Nat) : bin (bitS r s) := by
  intro x hx
  simp only [bitS, List.mem_map] at hx
  obtain ⟨k, _, rfl⟩ := hx
  omega
theorem bitS_take {r s k : Nat} (h : k < r) : (bitS r s).take (k + 1) = (bitS r s).take k ++ [((s / 2 ^ k % 2 : Nat) : Int)] := take_next (bitS_at h)
def freeB (s k : Nat) : Bool := decide (k = 0) || decide (s % 2 ^ k = 2 ^ (k - 1))
theorem mod_pow_iff (s k : Nat) : s % 2 ^ (k + 1) = 2 ^ k ↔ (∀ j, j < k → s / 2 ^ j % 2 = 0) ∧ s / 2 ^ k % 2 = 1 := by
  have hb : ∀ j, s / 2 ^ j % 2 = (s.testBit j).toNat := fun j => by rw [Nat.testBit_eq_decide_div_mod_eq]; rcases Nat.mod_two_eq_zero_or_one (s / 2 ^ j) with e | e <;> simp [e]
  constructor
  · intro h
    have ht : ∀ j, j < k + 1 → s.testBit j = (2 ^ k).testBit j := fun j hj => by
      rw [← h, Nat.testBit_mod_two_pow]; simp [hj]
    refine ⟨fun j hj => ?_, ?_⟩
    · rw [hb, ht j (by omega), Nat.testBit_two_pow]; simp; omega
    · rw [hb, ht k (by omega), Nat.testBit_two_pow]; simp
  · rintro ⟨h1, h2⟩
    apply Nat.eq_of_testBit_eq
    intro j
    rw [Nat.testBit_mod_two_pow, Nat.testBit_two_pow]
    rcases Nat.lt_trichotomy j k with h | h | h
    · have := h1 j h; rw [hb] at this
      cases ht : s.testBit j <;> simp [ht] at this ⊢; omega
    · subst h; rw [hb] at h2
      cases ht : s.testBit j <;> simp [ht] at h2 ⊢
    · rw [decide_eq_false (by omega), decide_eq_false (by omega), Bool.false_and]
theorem canS_bits {r s k : Nat} (h : k < r) : canS (bitS r s) k = freeB s k := by
  cases k with
  | zero => rw [canS_zero]; rfl
  | succ k =>
    rw [Bool.eq_iff_iff, canS_first]
    simp only [freeB, Nat.add_sub_cancel, Bool.or_eq_true, decide_eq_true_eq]
    rw [mod_pow_iff, bitS_at (by omega)]
    constructor
    · rintro ⟨h1, h2⟩
      right
      refine ⟨fun j hj => ?_, ?_⟩
      · have := h1 j hj
        rw [bitS_at (by omega)] at this
        simp only [ne_eq, Option.some.injEq] at this
        omega
      · simp only [Option.some.injEq] at h2; omega
    · rintro (h0 | ⟨h1, h2⟩)
      · omega
      · refine ⟨fun j hj => ?_, by simp only [Option.some.injEq]; omega⟩
        rw [bitS_at (by omega)]
        have := h1 j hj
        simp only [ne_eq, Option.some.injEq]; omega
theorem moveS_bits {r s k : Nat} (h : k < r) : moveS (bitS r s) k = bitS r (s ^^^ 2 ^ k) := by
  apply List.ext_getElem?
  intro j
  rw [moveS, List.getElem?_set, bitS_at h]
  have hbit : ∀ (t j : Nat), ((t / 2 ^ j % 2 : Nat) : Int) = ((t.testBit j).toNat : Nat) := fun t j => by rw [Nat.testBit_eq_decide_div_mod_eq]; rcases Nat.mod_two_eq_zero_or_one (t / 2 ^ j) with e | e <;> simp [e]
  by_cases hj : j < r
  · rw [bitS_at (s := s) hj, bitS_at (s := s ^^^ 2 ^ k) hj, bitS_length, hbit (s ^^^ 2 ^ k), Nat.testBit_xor, Nat.testBit_two_pow]
    by_cases e : k = j
    · subst e
      rw [if_pos rfl, if_pos h]
      simp only [Option.getD_some]
      rw [hbit]
      cases s.testBit k <;> simp
    · rw [if_neg e]; simp [e, hbit]
  · rw [List.getElem?_eq_none (by rw [bitS_length]; omega), List.getElem?_eq_none (by rw [bitS_length]; omega), bitS_length]
    simp; omega
/-! bits of uint32's -/
theorem ofInt_u32 (a : Nat) (ha : a < 4294967296) : (BitVec.ofInt 32 (a : Int)).toNat = a := by
  rw [BitVec.ofInt_natCast, BitVec.toNat_ofNat]; exact Nat.mod_eq_of_lt (by omega)
theorem wrap_u32n (a : Nat) (ha : a < 4294967296) : IntKind.u32.wrap (a : Int) = (a : Int) := by
  simp [IntKind.wrap, IntKind.signed, IntKind.bits]; omega
theorem u32_and_nat (a b : Nat) (ha : a < 4294967296) (hb : b < 4294967296) : bits .and .u32 (a : Int) (b : Int) = ((a &&& b : Nat) : Int) := by
  have hx : a &&& b < 2 ^ 32 := Nat.and_lt_two_pow _ (by omega)
  show IntKind.u32.wrap ((BitVec.ofInt 32 (a : Int) &&& BitVec.ofInt 32 (b : Int)).toNat : Int) = _
  rw [BitVec.toNat_and, ofInt_u32 a ha, ofInt_u32 b hb]
  exact wrap_u32n _ (by omega)
theorem u32_xor_nat (a b : Nat) (ha : a < 4294967296) (hb : b < 4294967296) : bits .xor .u32 (a : Int) (b : Int) = ((a ^^^ b : Nat) : Int) := by
  have hx : a ^^^ b < 2 ^ 32 := Nat.xor_lt_two_pow (by omega) (by omega)
  show IntKind.u32.wrap ((BitVec.ofInt 32 (a : Int) ^^^ BitVec.ofInt 32 (b : Int)).toNat : Int) = _
  rw [BitVec.toNat_xor, ofInt_u32 a ha, ofInt_u32 b hb]
  exact wrap_u32n _ (by omega)
theorem bit_go (s k : Nat) (hs : s < 4294967296) : bits .and .u32 ((s : Int) / 2 ^ k) 1 = ((s / 2 ^ k % 2 : Nat) : Int) := by
  have h1 : s / 2 ^ k ≤ s := Nat.div_le_self _ _
  rw [show (s : Int) / 2 ^ k = ((s / 2 ^ k : Nat) : Int) by simp, show (1 : Int) = ((1 : Nat) : Int) by rfl, u32_and_nat _ _ (by omega) (by omega), Nat.and_one_is_mod]
theorem xor_go (s k : Nat) (hs : s < 4294967296) (hk : k ≤ 31) : bits .xor .u32 (s : Int) ((2 : Int) ^ k % 4294967296) = ((s ^^^ 2 ^ k : Nat) : Int) := by
  have p1 : 2 ^ k ≤ 2 ^ 31 := Nat.pow_le_pow_right (by omega) hk
  have e3 : (2 : Nat) ^ 31 = 2147483648 := rfl
  rw [show (2 : Int) ^ k = ((2 ^ k : Nat) : Int) by simp, Int.emod_eq_of_lt (Int.natCast_nonneg _) (by omega), u32_xor_nat _ _ hs (by omega)]
set_option maxHeartbeats 400000 in
set_option maxRecDepth 100000 in
theorem given_own (r s : Nat) (hr : r ≤ 31) (hs : s < 4294967296) (y z : Int) (hy : y = (r : Int)) (hz : z = (s : Int)) (w : World) :
    Calls Tryd.prog 40 #[.int .i64 y, .int .u32 z] w fun e w' => ∃ v, e = .returned v ∧ OwnI w' w.heap.size v (bitS r s) ∧ Below w.heap.size w w' := by
  subst hy hz
  go_enter Tryd.func40, Tryd.ntmps40
  go_wp2_with (fail)
  go_loopw [8, 5] (fun i v wr => ∃ k : Nat, k ≤ r ∧ i = .int .i64 k ∧ OwnI wr w.heap.size v ((bitS r s).take k) ∧ Below w.heap.size w wr) (fun i _ _ => r - (intOf i).toNat)
  case atStart => exact ⟨0, by omega, rfl, OwnI.nil _ _, Below.refl _ _⟩
  case round =>
    obtain ⟨k, hk, rfl, hown, hbe⟩ := hrel
    have hl : ((bitS r s).take k).length = k := by rw [List.length_take, bitS_length]; omega
    by_cases hlt : k < r
    · have hb := bit_go s k hs
      have hT := Lib.hid (bitS_take (s := s) hlt)
      have hb2 : s / 2 ^ k % 2 < 2 := Nat.mod_lt _ (by omega)
      obtain ⟨x, hx⟩ : ∃ x, x = s / 2 ^ k % 2 := ⟨_, rfl⟩
      rw [← hx] at hb hT hb2
      clear hx
      go_wp2_with (first
        | (at_builtin
           refine wpList_push rfl _ _ rfl rfl (hown.none_ (World.grownBy_alloc wr _ none)) wr.heap.size 1 x rfl (Blk.new _ _ _) (by omega) (by simp; have := hbe.size; omega) ?_
           intro g5 cap5 w5 hown5 hg5 hat5 hlt5))
      go_roundw
      case rel => exact ⟨k + 1, by omega, by go_num, by rw [hl] at hown5; rw [hT.out]; exact hown5, (hbe.alloc hbe.size _).grown hg5 (by simp; have := hbe.size; omega) (fun j hj => hown.ge hj)⟩
      case measure => simp [intOf]; omega
    · obtain rfl : k = r := by omega
      have hT : (bitS k s).take k = bitS k s := List.take_of_length_le (by rw [bitS_length]; exact Nat.le_refl _)
      rw [hT] at hown
      go_wp2_with (fail)
      go_ret
      exact ⟨_, rfl, hown, hbe⟩
theorem given_any (r s : Nat) (hr : r ≤ 31) (hs : s < 4294967296) (y z : Int) (hy : y = (r : Int)) (hz : z = (s : Int)) (w : World) :
    Calls Tryd.prog 40 #[.int .i64 y, .int .u32 z] w (RetS r (bitS r s) w) := by
  refine (given_own r s hr hs y z hy hz w).mono ?_
  rintro e w' ⟨v, rfl, h1, h2⟩
  exact RetS_own h1 (bitS_length _ _) h2
theorem OwnI.reads_at {w : World} {base n c : Nat} {A : Option Addr} {xs : List Int} (h : OwnI w base (.slice A n c) xs) : n = xs.length ∧ RInts w w.heap.size A n xs := by
  obtain ⟨A', c', hv, hr⟩ := h.reads
  injection hv with h1 h2 h3
  subst h1 h2
  exact ⟨rfl, hr⟩
theorem free_go {s k : Nat} (hk : k ≤ 31) (h0 : 0 < k) (hs : s < 4294967296) : (bits .and .u32 (s : Int) (((2 : Int) ^ k - 1) % 4294967296) == (2 : Int) ^ (k - 1) % 4294967296) = freeB s k := by
  have p1 : 2 ^ k ≤ 2 ^ 31 := Nat.pow_le_pow_right (by omega) hk
  have p2 : 2 ^ (k - 1) ≤ 2 ^ 31 := Nat.pow_le_pow_right (by omega) (by omega)
  have p3 : 0 < 2 ^ k := Nat.pow_pos (by omega)
  have e1 : (2 : Int) ^ k = ((2 ^ k : Nat) : Int) := by simp
  have e2 : (2 : Int) ^ (k - 1) = ((2 ^ (k - 1) : Nat) : Int) := by simp
  have e3 : (2 : Nat) ^ 31 = 2147483648 := rfl
  have e4 := Nat.and_two_pow_sub_one_eq_mod s k
  rw [e1, e2, freeB, decide_eq_false (by omega : ¬ k = 0), Bool.false_or]
  generalize 2 ^ (k - 1) = Q at *
  generalize 2 ^ k = P at *
  clear e1 e2
  rw [show ((P : Int) - 1) % 4294967296 = ((P - 1 : Nat) : Int) by omega, show (Q : Int) % 4294967296 = (Q : Int) by omega, u32_and_nat _ _ hs (by omega), e4]
  rw [Bool.eq_iff_iff]
  simp only [beq_iff_eq, decide_eq_true_eq]
  omega
set_option maxHeartbeats 400000 in
theorem free_any (s k : Nat) (hk : k ≤ 31) (hs : s < 4294967296) (y z : Int) (hy : y = (s : Int)) (hz : z = (k : Int)) (w : World) :
    Calls Tryd.prog 42 #[.int .u32 y, .int .i64 z] w fun e w' => e = .returned (.bool (freeB s k)) ∧ Below w.heap.size w w' := by
  subst hy hz
  by_cases h0 : k = 0
  · subst h0
    go_enter Tryd.func42, Tryd.ntmps42
    go_wp2_with (fail)
    go_quiet (fail)
    go_wp2_with (fail)
    go_ret
    exact ⟨rfl, below_drewN (Below.refl _ _) _⟩
  · have hk0 : ((k : Int) == 0) = false := by simp; omega
    have hk1 : 0 < k := by omega
    have hG := Lib.hid (free_go hk hk1 hs)
    go_enter Tryd.func42, Tryd.ntmps42
    go_wp2_with (fail)
    go_quiet (fail)
    rw [hG.out]
    go_wp2_with (fail)
    go_ret
    exact ⟨rfl, below_drewN (Below.refl _ _) _⟩
section
variable {w0 w : World} {l : List (Option Addr × Nat × List Int)}
theorem v_given (h : Wk w0 w l) (r s : Nat) (hr : r ≤ 31) (hs : s < 4294967296) : Calls Tryd.prog 40 #[.int .i64 r, .int .u32 s] w fun e w' => ∃ A c, e = .returned (.slice A r c) ∧ Wk w0 w' ((A, r, bitS r s) :: l) := by
  refine (given_any r s hr hs _ _ rfl rfl w).mono ?_
  rintro e w' ⟨A, c, rfl, h1, h2⟩
  exact ⟨A, c, rfl, (h.step h2).add h1⟩
end
/-- so many low bits, as the laws ask for them -/
theorem mask_go {s k : Nat} (hk : k ≤ 31) (hs : s < 4294967296) : bits .and .u32 (s : Int) (((2 : Int) ^ k - 1) % 4294967296) = ((s % 2 ^ k : Nat) : Int) := by
  have p1 : 2 ^ k ≤ 2 ^ 31 := Nat.pow_le_pow_right (by omega) hk
  have p3 : 0 < 2 ^ k := Nat.pow_pos (by omega)
  have e1 : (2 : Int) ^ k = ((2 ^ k : Nat) : Int) := by simp
  have e3 : (2 : Nat) ^ 31 = 2147483648 := rfl
  have e4 := Nat.and_two_pow_sub_one_eq_mod s k
  rw [e1]
  generalize 2 ^ k = P at *
  clear e1
  rw [show ((P : Int) - 1) % 4294967296 = ((P - 1 : Nat) : Int) by omega, u32_and_nat _ _ hs (by omega), e4]
/-- so many low bits, each step's value by a letter -/
theorem mask_let {k : Nat} (hk : k ≤ 31) : ∃ P Q : Nat, (2 : Int) ^ k % 4294967296 = (P : Int) ∧ ((P : Int) - 1) % 4294967296 = (Q : Int) ∧ Q = 2 ^ k - 1 ∧ Q < 4294967296 ∧ ∀ s : Nat, s < 4294967296 → bits .and .u32 (s : Int) (Q : Int) = ((s % 2 ^ k : Nat) : Int) := by
  have p1 : 2 ^ k ≤ 2 ^ 31 := Nat.pow_le_pow_right (by omega) hk
  have p3 : 0 < 2 ^ k := Nat.pow_pos (by omega)
  have e1 : (2 : Int) ^ k = ((2 ^ k : Nat) : Int) := by simp
  have e3 : (2 : Nat) ^ 31 = 2147483648 := rfl
  refine ⟨2 ^ k, 2 ^ k - 1, by rw [e1]; omega, by omega, rfl, by omega, fun s hs => ?_⟩
  rw [u32_and_nat _ _ hs (by omega), Nat.and_two_pow_sub_one_eq_mod]
/-! LeadsP -/
theorem leadF_snoc (xs zs : List Int) (r : Int) : leadF xs (zs ++ [r]) = if (leadF xs zs).2 ≠ 0 then leadF xs zs else if stepE (leadF xs zs).1 r = 0 then (moveS (leadF xs zs).1 r.toNat, 0) else ((leadF xs zs).1, stepE (leadF xs zs).1 r) := by
  induction zs generalizing xs with
  | nil =>
    have h0 : leadF xs [] = (xs, 0) := rfl
    rw [h0, if_neg (show ¬ (xs, (0 : Int)).2 ≠ 0 by simp)]
    rfl
  | cons z zs ih =>
    simp only [List.cons_append, leadF]
    by_cases h : stepE xs z = 0
    · simp only [if_pos h]; exact ih _
    · simp only [if_neg h]; rw [if_pos h]
theorem bitS_okx (r s : Nat) : (bitS r s).all okx = true := all_of_bin (bitS_bin r s)
theorem chk_bits {r s : Nat} (h1 : 1 ≤ r) (h2 : r ≤ 16) : chk (bitS r s) = 0 := chk_ok (by rw [bitS_length]; omega) (by rw [bitS_length]; omega) (bitS_okx r s)
theorem both_bits {r s t : Nat} (h1 : 1 ≤ r) (h2 : r ≤ 16) : bothE (bitS r s) (bitS r t) = 0 := both_of (chk_bits h1 h2) (chk_bits h1 h2) (by rw [bitS_length, bitS_length])
theorem bitS_inj {r s t : Nat} (hs : s < 2 ^ r) (ht : t < 2 ^ r) (h : bitS r s = bitS r t) : s = t := by
  apply Nat.eq_of_testBit_eq
  intro j
  by_cases hj : j < r
  · have h1 := congrArg (fun l : List Int => l[j]?) h
    simp only [bitS_at hj, Option.some.injEq] at h1
    rw [Nat.testBit_eq_decide_div_mod_eq, Nat.testBit_eq_decide_div_mod_eq]
    have : s / 2 ^ j % 2 = t / 2 ^ j % 2 := by omega
    rw [this]
  · have hp : 2 ^ r ≤ 2 ^ j := Nat.pow_le_pow_right (by omega) (by omega)
    rw [Nat.testBit_lt_two_pow (by omega), Nat.testBit_lt_two_pow (by omega)]
theorem num_bits {r s t : Nat} (hs : s < 2 ^ r) (ht : t < 2 ^ r) : numS (bitS r s) = numS (bitS r t) ↔ s = t :=
  ⟨fun h => bitS_inj hs ht (numS_inj _ _ (bitS_bin _ _) (bitS_bin _ _) (by rw [bitS_length, bitS_length]) h), fun h => by rw [h]⟩
theorem xor_pow_lt {r s k : Nat} (hs : s < 2 ^ r) (hk : k < r) : s ^^^ 2 ^ k < 2 ^ r := Nat.xor_lt_two_pow hs (Nat.pow_lt_pow_right (by omega) hk)
/-- one ring more: what the law reckons -/
theorem lead_step {r a now : Nat} {zs : List Int} {er k : Int} (h : leadF (bitS r a) zs = (bitS r now, er)) :
    leadF (bitS r a) (zs ++ [k]) = if er ≠ 0 then (bitS r now, er) else if k < 0 ∨ (r : Int) ≤ k then (bitS r now, 2) else if freeB now k.toNat then (bitS r (now ^^^ 2 ^ k.toNat), 0) else (bitS r now, 20) := by
  rw [leadF_snoc, h]
  by_cases he : er ≠ 0
  · rw [if_pos he, if_pos he]
  · rw [if_neg he, if_neg he]
    simp only
    by_cases hk : k < 0 ∨ (r : Int) ≤ k
    · have h2 : stepE (bitS r now) k = 2 := by rw [stepE, bitS_length, if_pos hk]
      rw [if_pos hk, h2, if_neg (by decide)]
    · obtain ⟨m, rfl⟩ : ∃ m : Nat, k = m := ⟨k.toNat, by omega⟩
      have hm : m < r := by omega
      have h3 := stepE_in (xs := bitS r now) (k := m) (by rw [bitS_length]; exact hm)
      rw [canS_bits hm] at h3
      rw [if_neg hk, h3, Int.toNat_natCast]
      cases freeB now m
      · simp
      · simp [moveS_bits hm]
theorem lead_end {r a b now : Nat} {zs : List Int} {er : Int} (h1 : 1 ≤ r) (h2 : r ≤ 16) (h : leadF (bitS r a) zs = (bitS r now, er)) (hn : now < 2 ^ r) (hb : b < 2 ^ r) :
    leadsE (bitS r a) (bitS r b) zs = if er ≠ 0 then er else if now = b then 0 else 14 := by
  rw [leadsE, if_neg (by simp [both_bits h1 h2]), h]
  by_cases he : er ≠ 0
  · rw [if_pos he, if_pos he]
  · rw [if_neg he, if_neg he]
    by_cases e : now = b
    · rw [if_pos e, if_pos ((num_bits hn hb).2 e)]
    · rw [if_neg e, if_neg (fun h => e ((num_bits hn hb).1 h))]
/-! WalkP -/
/-! how often a ring's digit has turned up to a place -/
def turnF (k x : Nat) : Nat := x / 2 ^ k - x / 2 ^ (k + 1)
theorem turnF_zero (k : Nat) : turnF k 0 = 0 := by simp [turnF]
theorem turnF_succ (k x : Nat) : turnF k (x + 1) = turnF k x + if k = tz (x + 1) then 1 else 0 := by
  induction k generalizing x with
  | zero =>
    simp only [turnF, Nat.pow_zero, Nat.div_one, Nat.zero_add, Nat.pow_one]
    rcases Nat.mod_two_eq_zero_or_one (x + 1) with h | h
    · rw [tz_even (by omega) h, if_neg (by omega)]; omega
    · rw [tz_odd h, if_pos rfl]; omega
  | succ k ih =>
    have e : ∀ y, turnF (k + 1) y = turnF k (y / 2) := fun y => by
      simp only [turnF]
      rw [Nat.div_div_eq_div_mul, Nat.div_div_eq_div_mul, ← Nat.pow_succ', ← Nat.pow_succ']
    rw [e, e]
    rcases Nat.mod_two_eq_zero_or_one (x + 1) with h | h
    · rw [tz_even (by omega) h, show (x + 1) / 2 = x / 2 + 1 by omega, ih]
      congr 1
      by_cases hk : k = tz (x / 2 + 1)
      · rw [if_pos hk, if_pos (by omega)]
      · rw [if_neg hk, if_neg (by omega)]
    · rw [tz_odd h, if_neg (by omega), show (x + 1) / 2 = x / 2 by omega]; rfl
theorem turnF_mono (k : Nat) {x y : Nat} (h : x ≤ y) : turnF k x ≤ turnF k y := by
  induction y with
  | zero => have : x = 0 := by omega
            subst this; exact Nat.le_refl _
  | succ y ih =>
    by_cases hx : x = y + 1
    · subst hx; exact Nat.le_refl _
    · have := ih (by omega); rw [turnF_succ]; omega
theorem timesN_turn {n lo hi k : Nat} (h : k < n) (hl : lo ≤ hi) : (timesN n lo hi)[k]? = some ((turnF k hi - turnF k lo : Nat) : Int) := by
  rw [timesN_at h]
  have h1 : lo / 2 ^ k ≤ hi / 2 ^ k := Nat.div_le_div_right hl
  have h2 : lo / 2 ^ (k + 1) ≤ hi / 2 ^ (k + 1) := Nat.div_le_div_right hl
  have h3 : lo / 2 ^ (k + 1) ≤ lo / 2 ^ k := by rw [Nat.pow_succ, ← Nat.div_div_eq_div_mul]; exact Nat.div_le_self _ _
  have h4 : hi / 2 ^ (k + 1) ≤ hi / 2 ^ k := by rw [Nat.pow_succ, ← Nat.div_div_eq_div_mul]; exact Nat.div_le_self _ _
  have h5 := turnF_mono k hl
  congr 1
  unfold turnF at *
  omega
/-- how often each ring was moved on the way from a, behind j moves -/
def cntW (n a b j : Nat) : List Int := timesN n (min a (posS a b j)) (max a (posS a b j))
theorem cntW_length (n a b j : Nat) : (cntW n a b j).length = n := timesN_length _ _ _
theorem cntW_zero (n a b : Nat) : cntW n a b 0 = List.replicate n 0 := by
  unfold cntW
  rw [posS_zero, Nat.min_self, Nat.max_self]
  apply List.ext_getElem?
  intro k
  by_cases hk : k < n
  · rw [timesN_at hk, List.getElem?_replicate, if_pos hk]; simp
  · rw [List.getElem?_eq_none (by rw [timesN_length]; omega), List.getElem?_eq_none (by simp; omega)]
theorem cntW_at (n a b j k : Nat) (hk : k < n) : (cntW n a b j)[k]? = some ((turnF k (max a (posS a b j)) - turnF k (min a (posS a b j)) : Nat) : Int) :=
  timesN_turn hk (by omega)
/-- one move more: its ring once more -/
theorem cntW_succ {n a b j : Nat} (hj : j < distS a b) (hr : nextS (posS a b j) b < n) :
    ∃ x : Int, (cntW n a b j)[nextS (posS a b j) b]? = some x ∧ 0 ≤ x ∧ x ≤ max a (posS a b j) ∧ (cntW n a b j).set (nextS (posS a b j) b) (x + 1) = cntW n a b (j + 1) := by
  refine ⟨_, cntW_at _ _ _ _ _ hr, by omega, ?_, ?_⟩
  · have h1 : turnF (nextS (posS a b j) b) (max a (posS a b j)) ≤ max a (posS a b j) := by
      unfold turnF
      exact Nat.le_trans (Nat.sub_le _ _) (Nat.div_le_self _ _)
    omega
  · apply List.ext_getElem?
    intro k
    by_cases hk : k < n
    · rw [List.getElem?_set, cntW_at n a b (j + 1) k hk, cntW_length]
      rw [posS_succ hj]
      unfold distS at hj
      by_cases hab : a < b
      · have e1 : posS a b j = a + j := by unfold posS; rw [if_pos hab]
        have e2 : stepTo (a + j) b = a + j + 1 := by unfold stepTo; rw [if_pos (by omega)]
        have e3 : nextS (a + j) b = tz (a + j + 1) := by unfold nextS; rw [if_pos (by omega)]
        rw [e1, e3, e2, show max a (a + j) = a + j by omega, show min a (a + j) = a by omega, show max a (a + j + 1) = a + j + 1 by omega, show min a (a + j + 1) = a by omega]
        have m1 := turnF_mono k (show a ≤ a + j by omega)
        have m2 := turnF_succ k (a + j)
        by_cases he : tz (a + j + 1) = k
        · subst he
          rw [if_pos rfl, if_pos hk]
          rw [if_pos rfl] at m2
          congr 1; omega
        · rw [if_neg he, cntW_at _ _ _ _ _ hk, e1, show max a (a + j) = a + j by omega, show min a (a + j) = a by omega]
          rw [if_neg (fun h => he h.symm)] at m2
          congr 1; omega
      · have e1 : posS a b j = a - j := by unfold posS; rw [if_neg hab]
        have e2 : stepTo (a - j) b = a - j - 1 := by unfold stepTo; rw [if_neg (by omega)]
        have e3 : nextS (a - j) b = tz (a - j) := by unfold nextS; rw [if_neg (by omega)]
        rw [e1, e3, e2, show max a (a - j) = a by omega, show min a (a - j) = a - j by omega, show max a (a - j - 1) = a by omega, show min a (a - j - 1) = a - j - 1 by omega]
        have m1 := turnF_mono k (show a - j ≤ a by omega)
        have m2 := turnF_succ k (a - j - 1)
        rw [show a - j - 1 + 1 = a - j by omega] at m2
        by_cases he : tz (a - j) = k
        · subst he
          rw [if_pos rfl, if_pos hk]
          rw [if_pos rfl] at m2
          congr 1; omega
        · rw [if_neg he, cntW_at _ _ _ _ _ hk, e1, show max a (a - j) = a by omega, show min a (a - j) = a - j by omega]
          rw [if_neg (fun h => he h.symm)] at m2
          congr 1; omega
    · rw [List.getElem?_eq_none (by rw [List.length_set, cntW_length]; omega), List.getElem?_eq_none (by rw [cntW_length]; omega)]
theorem cntW_end (n a b : Nat) : cntW n a b (distS a b) = timesN n (min a b) (max a b) := by
  have : posS a b (distS a b) = b := by unfold posS distS; split <;> omega
  unfold cntW; rw [this]
/-! a way on sets of bits -/
theorem wayN_at {a b j : Nat} (h : j < distS a b) : (wayN a b)[j]? = some (nextS (posS a b j) b : Int) := by simp [wayN, h]
theorem way_set {n s b : Nat} (hs : s < 2 ^ n) (hne : numS (bitS n s) ≠ b) (hb : b < 2 ^ n) :
    nextS (numS (bitS n s)) b < n ∧ freeB s (nextS (numS (bitS n s)) b) = true ∧ numS (bitS n (s ^^^ 2 ^ nextS (numS (bitS n s)) b)) = stepTo (numS (bitS n s)) b ∧ s ^^^ 2 ^ nextS (numS (bitS n s)) b < 2 ^ n := by
  obtain ⟨h1, h2, h3, _⟩ := next_stop (bitS_bin n s) hne (by rw [bitS_length]; exact hb)
  rw [bitS_length] at h1
  rw [canS_bits h1] at h2
  rw [moveS_bits h1] at h3
  exact ⟨h1, h2, h3, xor_pow_lt hs h1⟩
theorem num_bits_lt (n s : Nat) : numS (bitS n s) < 2 ^ n := by
  have := numS_lt (bitS n s)
  rwa [bitS_length] at this
/-- behind j moves: what holds of the set and of the ring that is next -/
theorem way_step {n s a b j : Nat} (hs : s < 2 ^ n) (hb : b < 2 ^ n) (hj : j < distS a b) (hp : numS (bitS n s) = posS a b j) :
    nextS (posS a b j) b < n ∧ freeB s (nextS (posS a b j) b) = true ∧ numS (bitS n (s ^^^ 2 ^ nextS (posS a b j) b)) = posS a b (j + 1) ∧ s ^^^ 2 ^ nextS (posS a b j) b < 2 ^ n := by
  have hne : numS (bitS n s) ≠ b := by
    rw [hp]
    intro e
    have := posS_dist (a := a) (b := b) (j := j) (by omega)
    rw [e] at this
    simp [distS] at this hj
    omega
  obtain ⟨h1, h2, h3, h4⟩ := way_set hs hne hb
  rw [hp] at h1 h2 h3 h4
  rw [posS_succ hj]
  exact ⟨h1, h2, h3, h4⟩
theorem gray_bits {n s p : Nat} (hp : numS (bitS n s) = p) : grayS n p = bitS n s := by
  have := grayS_numS (bitS n s) (bitS_bin n s)
  rwa [bitS_length, hp] at this
/-- of two moves one after the other just one is of ring 0 -/
theorem way_turns {a b j : Nat} (h : j + 1 < distS a b) : (nextS (posS a b (j + 1)) b = 0) ↔ ¬ (nextS (posS a b j) b = 0) := by
  have z : ∀ x, 0 < x → (tz x = 0 ↔ x % 2 = 1) := fun x hx => by
    rcases Nat.mod_two_eq_zero_or_one x with e | e
    · rw [tz_even hx e]; omega
    · rw [tz_odd e]; omega
  unfold distS at h
  by_cases hab : a < b
  · have e1 : posS a b j = a + j := by unfold posS; rw [if_pos hab]
    have e2 : posS a b (j + 1) = a + (j + 1) := by unfold posS; rw [if_pos hab]
    unfold nextS
    rw [e1, e2, if_pos (by omega), if_pos (by omega), z _ (by omega), z _ (by omega)]
    omega
  · have e1 : posS a b j = a - j := by unfold posS; rw [if_neg hab]
    have e2 : posS a b (j + 1) = a - (j + 1) := by unfold posS; rw [if_neg hab]
    unfold nextS
    rw [e1, e2, if_neg (by omega), if_neg (by omega), z _ (by omega), z _ (by omega)]
    omega
theorem distS_comm (a b : Nat) : distS a b = distS b a := by unfold distS; omega
/-- the way back is the way turned around -/
theorem way_back {a b i : Nat} (h : i < distS a b) : (wayN b a)[distS a b - 1 - i]? = some (nextS (posS a b i) b : Int) := by
  rw [wayN_at (by rw [distS_comm b a]; omega)]
  congr 2
  unfold distS at *
  by_cases hab : a < b
  · have e1 : posS a b i = a + i := by unfold posS; rw [if_pos hab]
    have e2 : posS b a (a - b + (b - a) - 1 - i) = a + i + 1 := by unfold posS; rw [if_neg (by omega)]; omega
    rw [e1, e2]
    unfold nextS
    rw [if_neg (by omega), if_pos (by omega)]
  · have e1 : posS a b i = a - i := by unfold posS; rw [if_neg hab]
    have e2 : posS b a (a - b + (b - a) - 1 - i) = a - i - 1 := by unfold posS; rw [if_pos (by omega)]; omega
    rw [e1, e2]
    unfold nextS
    rw [if_pos (by omega), if_neg (by omega)]
    congr 1; omega
theorem posS_end (a b : Nat) : posS a b (distS a b) = b := by unfold posS distS; split <;> omega
/-- another ring behind, that is off -/
theorem numS_off (xs : List Int) : numS (xs ++ [0]) = numS xs := by
  induction xs with
  | nil => rfl
  | cons x xs ih => simp only [List.cons_append, numS, ih]
theorem off_okx (n s : Nat) : (bitS n s ++ [0]).all okx = true := all_of_bin fun x hx => by
  rcases List.mem_append.1 hx with h | h
  · exact bitS_bin n s x h
  · exact Or.inl (by simpa using h)
theorem both_off {n s t : Nat} (h2 : n ≤ 15) : bothE (bitS n s ++ [0]) (bitS n t ++ [0]) = 0 :=
  both_of (chk_ok (by simp) (by simp [bitS_length]; omega) (off_okx n s)) (chk_ok (by simp) (by simp [bitS_length]; omega) (off_okx n t)) (by simp [bitS_length])
theorem leadF_way {n a s : Nat} {zs : List Int} {r : Nat} (h : leadF (bitS n a) zs = (bitS n s, 0)) (hr : r < n) (hf : freeB s r = true) : leadF (bitS n a) (zs ++ [(r : Int)]) = (bitS n (s ^^^ 2 ^ r), 0) := by
  rw [lead_step h, if_neg (by simp), if_neg (by omega), Int.toNat_natCast, if_pos hf]
/-! LineP -/
def numB (n s : Nat) : Nat := numS (bitS n s)
theorem numB_lt (n s : Nat) : numB n s < 2 ^ n := num_bits_lt n s
theorem numB_inj {n s t : Nat} (hs : s < 2 ^ n) (ht : t < 2 ^ n) (h : numB n s = numB n t) : s = t := (num_bits hs ht).1 h
theorem numB_move {n s k : Nat} (hk : k < n) (hf : freeB s k = true) : (numB n (s ^^^ 2 ^ k) = numB n s + 1 ∧ k = tz (numB n s + 1)) ∨ (numB n (s ^^^ 2 ^ k) + 1 = numB n s ∧ k = tz (numB n s)) := by
  have := line_step (bitS n s) (bitS_bin n s) k (by rw [bitS_length]; exact hk) (by rw [canS_bits hk]; exact hf)
  rwa [moveS_bits hk] at this
theorem numB_up {n s : Nat} (h : numB n s + 1 < 2 ^ n) : tz (numB n s + 1) < n ∧ freeB s (tz (numB n s + 1)) = true ∧ numB n (s ^^^ 2 ^ tz (numB n s + 1)) = numB n s + 1 := by
  obtain ⟨h1, h2, h3⟩ := line_up (bitS n s) (bitS_bin n s) (by rw [bitS_length]; exact h)
  rw [bitS_length] at h2
  rw [canS_bits h2] at h1
  rw [moveS_bits h2] at h3
  exact ⟨h2, h1, h3⟩
theorem numB_down {n s : Nat} (h : 0 < numB n s) : tz (numB n s) < n ∧ freeB s (tz (numB n s)) = true ∧ numB n (s ^^^ 2 ^ tz (numB n s)) + 1 = numB n s := by
  obtain ⟨h1, h2, h3⟩ := line_down (bitS n s) (bitS_bin n s) h
  rw [bitS_length] at h2
  rw [canS_bits h2] at h1
  rw [moveS_bits h2] at h3
  exact ⟨h2, h1, h3⟩
/-- the set with a number -/
theorem numB_onto {n m : Nat} (h : m < 2 ^ n) : ∃ s, s < 2 ^ n ∧ numB n s = m := by
  have inj : ∀ s, s ∈ List.range (2 ^ n) → ∀ t, t ∈ List.range (2 ^ n) → numB n s = numB n t → s = t := fun s hs t ht e => numB_inj (List.mem_range.1 hs) (List.mem_range.1 ht) e
  -- walk up from the empty set
  induction m with
  | zero =>
    refine ⟨0, h, ?_⟩
    unfold numB
    have : bitS n 0 = List.replicate n 0 := by
      apply List.ext_getElem?
      intro j
      by_cases hj : j < n
      · rw [bitS_at hj]; simp [hj]
      · rw [List.getElem?_eq_none (by rw [bitS_length]; omega), List.getElem?_eq_none (by simp; omega)]
    rw [this]
    clear this h inj
    induction n with
    | zero => rfl
    | succ n ih => rw [List.replicate_succ, numS, ih]; rfl
  | succ m ih =>
    obtain ⟨s, hs, e⟩ := ih (by omega)
    obtain ⟨h1, _, h3⟩ := numB_up (n := n) (s := s) (by omega)
    exact ⟨s ^^^ 2 ^ tz (numB n s + 1), xor_pow_lt hs h1, by rw [h3, e]⟩
/-- how far a set is away from another -/
def farB (n a x : Nat) : Nat := distS (numB n x) (numB n a)
theorem farB_self (n a : Nat) : farB n a a = 0 := by simp [farB, distS]
theorem farB_zero {n a x : Nat} (ha : a < 2 ^ n) (hx : x < 2 ^ n) (h : farB n a x = 0) : x = a := numB_inj hx ha (by unfold farB distS at h; omega)
def adjB (n y x : Nat) : Prop := ∃ k, k < n ∧ freeB y k = true ∧ x = y ^^^ 2 ^ k
theorem farB_adj {n a y k : Nat} (hk : k < n) (hf : freeB y k = true) : farB n a (y ^^^ 2 ^ k) ≤ farB n a y + 1 := by
  unfold farB distS
  rcases numB_move hk hf with ⟨h, _⟩ | ⟨h, _⟩ <;> omega
/-- whoever is farther away has a neighbour that is one move nearer -/
theorem farB_near {n a x L : Nat} (hx : x < 2 ^ n) (h : farB n a x = L + 1) : ∃ y, y < 2 ^ n ∧ farB n a y = L ∧ adjB n y x := by
  have hl := numB_lt n x
  have ha := numB_lt n a
  unfold farB distS at h
  by_cases hlt : numB n x < numB n a
  · obtain ⟨h1, h2, h3⟩ := numB_up (n := n) (s := x) (by omega)
    refine ⟨x ^^^ 2 ^ tz (numB n x + 1), xor_pow_lt hx h1, by unfold farB distS; omega, ?_⟩
    obtain ⟨g1, g2, g3⟩ := numB_down (n := n) (s := x ^^^ 2 ^ tz (numB n x + 1)) (by omega)
    refine ⟨_, g1, g2, ?_⟩
    exact (numB_inj (n := n) (xor_pow_lt (xor_pow_lt hx h1) g1) hx (by omega)).symm
  · obtain ⟨h1, h2, h3⟩ := numB_down (n := n) (s := x) (by omega)
    refine ⟨x ^^^ 2 ^ tz (numB n x), xor_pow_lt hx h1, by unfold farB distS; omega, ?_⟩
    obtain ⟨g1, g2, g3⟩ := numB_up (n := n) (s := x ^^^ 2 ^ tz (numB n x)) (by omega)
    refine ⟨_, g1, g2, ?_⟩
    exact (numB_inj (n := n) (xor_pow_lt (xor_pow_lt hx h1) g1) hx (by omega)).symm
/-- layers L (q1, not gone through yet) and L + 1 (q2), what has been found, and who is still to be found from whom -/
structure Bfs (n a L : Nat) (q1 q2 : List Nat) (out : List Int) (pend : Nat → Prop) : Prop where
  len : out.length = 2 ^ n
  fst : ∀ x ∈ q1, x < 2 ^ n ∧ farB n a x = L
  snd : ∀ x ∈ q2, x < 2 ^ n ∧ farB n a x = L + 1
  outs : ∀ x, x < 2 ^ n → out[x]? = some (if farB n a x ≤ L ∨ x ∈ q2 then (farB n a x : Int) else -1)
  next : ∀ x, x < 2 ^ n → farB n a x = L + 1 → x ∈ q2 ∨ pend x
def pendH (n : Nat) (q1 : List Nat) (x : Nat) : Prop := ∃ y ∈ q1, adjB n y x
def pendK (n : Nat) (q1 : List Nat) (at_ k x : Nat) : Prop := (∃ y ∈ q1, adjB n y x) ∨ ∃ j, k ≤ j ∧ j < n ∧ freeB at_ j = true ∧ x = at_ ^^^ 2 ^ j
theorem bfs_start {n a : Nat} (ha : a < 2 ^ n) : Bfs n a 0 [a] [] ((List.replicate (2 ^ n) (-1)).set a 0) (pendH n [a]) where
  len := by simp
  fst := fun x hx => by
    obtain rfl : x = a := by simpa using hx
    exact ⟨ha, farB_self n x⟩
  snd := fun x hx => by simp at hx
  outs := fun x hx => by
    rw [List.getElem?_set]
    by_cases e : a = x
    · subst e; rw [if_pos rfl, if_pos (by simpa using ha), if_pos (Or.inl (by rw [farB_self]; exact Nat.le_refl _)), farB_self]; rfl
    · rw [if_neg e, List.getElem?_replicate, if_pos hx, if_neg]
      rintro (h | h)
      · exact e (farB_zero ha hx (by omega)).symm
      · simp at h
  next := fun x hx h => by
    obtain ⟨y, hy, hy0, hadj⟩ := farB_near hx h
    obtain rfl := farB_zero ha hy hy0
    exact Or.inr ⟨y, by simp, hadj⟩
theorem bfs_shift {n a L : Nat} {q2 : List Nat} {out : List Int} (h : Bfs n a L [] q2 out (pendH n [])) : Bfs n a (L + 1) q2 [] out (pendH n q2) where
  len := h.len
  fst := h.snd
  snd := fun x hx => by simp at hx
  outs := fun x hx => by
    rw [h.outs x hx]
    congr 1
    by_cases h1 : farB n a x ≤ L ∨ x ∈ q2
    · rw [if_pos h1, if_pos]
      rcases h1 with h1 | h1
      · left; omega
      · left; have := (h.snd x h1).2; omega
    · rw [if_neg h1, if_neg]
      rintro (h2 | h2)
      · have h3 : farB n a x = L + 1 := by
          have : ¬ farB n a x ≤ L := fun h => h1 (Or.inl h)
          omega
        rcases h.next x hx h3 with h4 | ⟨y, hy, _⟩
        · exact h1 (Or.inr h4)
        · simp at hy
      · simp at h2
  next := fun x hx hf => by
    obtain ⟨y, hy, hyl, hadj⟩ := farB_near hx hf
    rcases h.next y hy hyl with h4 | ⟨z, hz, _⟩
    · exact Or.inr ⟨y, h4, hadj⟩
    · simp at hz
/-- the queue's head is of the nearer layer -/
theorem bfs_head {n a L : Nat} {q1 q2 : List Nat} {out : List Int} {t : Nat} {r : List Nat} (h : Bfs n a L q1 q2 out (pendH n q1)) (hq : q1 ++ q2 = t :: r) :
    ∃ L p1 p2, r = p1 ++ p2 ∧ Bfs n a L (t :: p1) p2 out (pendH n (t :: p1)) := by
  cases q1 with
  | nil =>
    simp at hq
    subst hq
    exact ⟨L + 1, r, [], by simp, bfs_shift h⟩
  | cons y q1 =>
    simp at hq
    obtain ⟨rfl, rfl⟩ := hq
    exact ⟨L, q1, q2, rfl, h⟩
theorem bfs_pop {n a L t : Nat} {q1 q2 : List Nat} {out : List Int} (h : Bfs n a L (t :: q1) q2 out (pendH n (t :: q1))) : t < 2 ^ n ∧ farB n a t = L ∧ out[t]? = some (L : Int) ∧ Bfs n a L q1 q2 out (pendK n q1 t 0) := by
  obtain ⟨h1, h2⟩ := h.fst t (by simp)
  refine ⟨h1, h2, ?_, h.len, fun x hx => h.fst x (by simp [hx]), h.snd, h.outs, fun x hx hf => ?_⟩
  · rw [h.outs t h1, if_pos (Or.inl (by omega)), h2]
  · rcases h.next x hx hf with h3 | ⟨y, hy, hadj⟩
    · exact Or.inl h3
    · rcases List.mem_cons.1 hy with rfl | hy
      · obtain ⟨k, k1, k2, k3⟩ := hadj
        exact Or.inr (Or.inr ⟨k, by omega, k1, k2, k3⟩)
      · exact Or.inr (Or.inl ⟨y, hy, hadj⟩)
theorem bfs_done {n a L t : Nat} {q1 q2 : List Nat} {out : List Int} (h : Bfs n a L q1 q2 out (pendK n q1 t n)) : Bfs n a L q1 q2 out (pendH n q1) :=
  ⟨h.len, h.fst, h.snd, h.outs, fun x hx hf => by
    rcases h.next x hx hf with h3 | h3 | ⟨j, h4, h5, _⟩
    · exact Or.inl h3
    · exact Or.inr h3
    · omega⟩
theorem bfs_shut {n a L t k : Nat} {q1 q2 : List Nat} {out : List Int} (h : Bfs n a L q1 q2 out (pendK n q1 t k)) (hf : freeB t k = false) : Bfs n a L q1 q2 out (pendK n q1 t (k + 1)) :=
  ⟨h.len, h.fst, h.snd, h.outs, fun x hx hx1 => by
    rcases h.next x hx hx1 with h3 | h3 | ⟨j, h4, h5, h6, h7⟩
    · exact Or.inl h3
    · exact Or.inr (Or.inl h3)
    · refine Or.inr (Or.inr ⟨j, ?_, h5, h6, h7⟩)
      rcases Nat.eq_or_lt_of_le h4 with rfl | h8
      · rw [hf] at h6; cases h6
      · omega⟩
theorem bfs_seen {n a L t k : Nat} {q1 q2 : List Nat} {out : List Int} {v : Int} (h : Bfs n a L q1 q2 out (pendK n q1 t k)) (hv : out[t ^^^ 2 ^ k]? = some v) (h0 : 0 ≤ v) : Bfs n a L q1 q2 out (pendK n q1 t (k + 1)) :=
  ⟨h.len, h.fst, h.snd, h.outs, fun x hx hx1 => by
    rcases h.next x hx hx1 with h3 | h3 | ⟨j, h4, h5, h6, h7⟩
    · exact Or.inl h3
    · exact Or.inr (Or.inl h3)
    · rcases Nat.eq_or_lt_of_le h4 with rfl | h8
      · subst h7
        rw [h.outs _ hx] at hv
        by_cases h9 : farB n a (t ^^^ 2 ^ k) ≤ L ∨ t ^^^ 2 ^ k ∈ q2
        · rcases h9 with h9 | h9
          · omega
          · exact Or.inl h9
        · rw [if_neg h9] at hv
          simp at hv; omega
      · exact Or.inr (Or.inr ⟨j, by omega, h5, h6, h7⟩)⟩
theorem bfs_new {n a L t k : Nat} {q1 q2 : List Nat} {out : List Int} {v : Int} (h : Bfs n a L q1 q2 out (pendK n q1 t k)) (ht : t < 2 ^ n) (htL : farB n a t = L) (hk : k < n) (hf : freeB t k = true) (hv : out[t ^^^ 2 ^ k]? = some v) (h0 : v < 0) :
    Bfs n a L q1 (q2 ++ [t ^^^ 2 ^ k]) (out.set (t ^^^ 2 ^ k) (L + 1)) (pendK n q1 t (k + 1)) := by
  have hx := xor_pow_lt ht hk
  have hn : ¬ (farB n a (t ^^^ 2 ^ k) ≤ L ∨ t ^^^ 2 ^ k ∈ q2) := by
    intro h9
    rw [h.outs _ hx, if_pos h9] at hv
    simp at hv; omega
  have hL : farB n a (t ^^^ 2 ^ k) = L + 1 := by
    have h1 := farB_adj (n := n) (a := a) hk hf
    have h2 : ¬ farB n a (t ^^^ 2 ^ k) ≤ L := fun h => hn (Or.inl h)
    omega
  refine ⟨by rw [List.length_set]; exact h.len, h.fst, ?_, ?_, ?_⟩
  · intro x hx'
    rcases List.mem_append.1 hx' with h1 | h1
    · exact h.snd x h1
    · obtain rfl : x = t ^^^ 2 ^ k := by simpa using h1
      exact ⟨hx, hL⟩
  · intro x hx'
    rw [List.getElem?_set]
    by_cases e : t ^^^ 2 ^ k = x
    · subst e
      rw [if_pos rfl, if_pos (by rw [h.len]; exact hx), if_pos (Or.inr (by simp)), hL]; rfl
    · rw [if_neg e, h.outs x hx']
      congr 1
      have : x ∈ q2 ++ [t ^^^ 2 ^ k] ↔ x ∈ q2 := by
        rw [List.mem_append, List.mem_singleton]
        exact ⟨fun h => h.elim id (fun h => absurd h.symm e), Or.inl⟩
      simp only [this]
  · intro x hx' hx1
    rcases h.next x hx' hx1 with h3 | h3 | ⟨j, h4, h5, h6, h7⟩
    · exact Or.inl (by simp [h3])
    · exact Or.inr (Or.inl h3)
    · rcases Nat.eq_or_lt_of_le h4 with rfl | h8
      · subst h7; exact Or.inl (by simp)
      · exact Or.inr (Or.inr ⟨j, by omega, h5, h6, h7⟩)
theorem bfs_end {n a L : Nat} {out : List Int} (h : Bfs n a L [] [] out (pendH n [])) : out = (List.range (2 ^ n)).map fun x => (farB n a x : Int) := by
  have none1 : ∀ x, x < 2 ^ n → farB n a x ≠ L + 1 := fun x hx e => by
    rcases h.next x hx e with h1 | ⟨y, hy, _⟩
    · simp at h1
    · simp at hy
  have all : ∀ d x, x < 2 ^ n → farB n a x ≠ L + 1 + d := by
    intro d
    induction d with
    | zero => exact none1
    | succ d ih =>
      intro x hx e
      obtain ⟨y, hy, hyl, _⟩ := farB_near hx e
      exact ih y hy hyl
  apply List.ext_getElem?
  intro x
  by_cases hx : x < 2 ^ n
  · rw [h.outs x hx, if_pos]
    · simp [List.getElem?_range hx]
    · left
      rcases Nat.lt_or_ge L (farB n a x) with h1 | h1
      · exact absurd (show farB n a x = L + 1 + (farB n a x - (L + 1)) by omega) (all _ x hx)
      · exact h1
  · rw [List.getElem?_eq_none (by rw [h.len]; omega), List.getElem?_eq_none (by simp; omega)]
/-- how many are not found yet -/
def negs (out : List Int) : Nat := out.countP (fun x => decide (x < 0))
theorem negs_le (out : List Int) : negs out ≤ out.length := List.countP_le_length
theorem negs_set {out : List Int} {k : Nat} {v u : Int} (h : out[k]? = some v) (hv : v < 0) (hu : 0 ≤ u) : negs (out.set k u) + 1 = negs out := by
  induction out generalizing k with
  | nil => simp at h
  | cons y ys ih =>
    cases k with
    | zero =>
      simp at h; subst h
      simp [negs, hv, show ¬ u < 0 by omega]
    | succ k =>
      simp at h
      have := ih h
      simp only [negs, List.set_cons_succ, List.countP_cons] at *
      omega
end Go.Proofs.YtjhcemhnnkcjaaaDoor
