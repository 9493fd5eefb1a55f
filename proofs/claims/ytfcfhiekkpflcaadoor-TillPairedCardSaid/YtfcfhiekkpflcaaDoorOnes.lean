/- math/bits.OnesCount32, of small numbers. -/
import Derived.Test.YtfcfhiekkpflcaaDoorSpell
import Derived.Deep.QuietTactic
import Derived.BigQuiet
namespace Go.Proofs.YtfcfhiekkpflcaaDoor
open Go.RowKit
theorem and255 (a : Nat) (ha : a < 4294967296) : bits .and .u32 (a : Int) 255 = ((a % 256 : Nat) : Int) := by
  rw [show (255 : Int) = ((255 : Nat) : Int) by rfl, u32_and_nat _ _ ha (by omega), show (255 : Nat) = 2 ^ 8 - 1 by rfl, Nat.and_two_pow_sub_one_eq_mod]
theorem div_high2 {m i q y : Nat} (hi : i < m) : (2 ^ m * q + y) / 2 ^ i % 2 = y / 2 ^ i % 2 := by
  obtain ⟨d, rfl⟩ : ∃ d, m = i + (d + 1) := ⟨m - i - 1, by omega⟩
  rw [Nat.pow_add, Nat.mul_assoc, Nat.mul_add_div (Nat.pow_pos (by omega)), Nat.pow_succ, Nat.mul_comm (2 ^ d) 2, Nat.mul_assoc]
  omega
theorem spW_split (b x : Nat) : ∀ a, spW (a + b) x = spW a (x / 2 ^ b) ++ spW b x := by
  intro a
  induction a with
  | zero => rw [Nat.zero_add]; rfl
  | succ a ih =>
    rw [show a + 1 + b = (a + b) + 1 by omega, spW, spW, ih, Nat.div_div_eq_div_mul, ← Nat.pow_add, Nat.add_comm b a]
    rfl
theorem pc_split (x : Nat) : pcW 16 x = pcW 8 (x / 256) + pcW 8 (x % 256) := by
  unfold pcW
  rw [show (16 : Nat) = 8 + 8 from rfl, spW_split, List.count_append, show (2 : Nat) ^ 8 = 256 by decide]
  congr 2
  refine spW_mod 8 x (x % 256) fun i hi => ?_
  have h := div_high2 (q := x / 256) (y := x % 256) hi
  rw [show (2 : Nat) ^ 8 = 256 by decide, Nat.div_add_mod] at h
  exact h
theorem pc_more {n x : Nat} (h : x < 2 ^ n) : ∀ d, pcW (n + d) x = pcW n x := by
  intro d
  induction d with
  | zero => rfl
  | succ d ih => rw [← Nat.add_assoc, pc_low (Nat.lt_of_lt_of_le h (Nat.pow_le_pow_right (by omega) (by omega))), ih]
theorem ones_sum (t : ByteArray) (h l x : Nat) (hh : x / 256 = h) (hl : x % 256 = l) (h256 : h < 256) (p0 : 0 < t.size) (p1 : h < t.size) (p2 : l < t.size) (ht : ∀ i : Fin 256, (t.data.toList.getD i.1 0).toNat = pcW 8 i.1) :
    ((t[0].toNat : Int) + (t[0].toNat : Int) + (t[h].toNat : Int) + (t[l].toNat : Int)) % 256 = (pcW 16 x : Nat) := by
  have key : ∀ k (hk : k < t.size), k < 256 → t[k].toNat = pcW 8 k := fun k hk h2 => by
    rw [← ht ⟨k, h2⟩]
    have h1 : k < t.data.size := hk
    show t.data[k].toNat = _
    simp only [List.getD]
    rw [Array.getElem?_toList, Array.getElem?_eq_getElem h1]
    rfl
  have e0 : pcW 8 0 = 0 := by decide
  have b1 := pc_le 8 h
  have b2 := pc_le 8 l
  rw [key 0 p0 (by omega), key h p1 h256, key l p2 (by omega), pc_split, hh, hl, e0]
  omega
set_option maxRecDepth 100000 in
set_option maxHeartbeats 4000000 in
theorem ones_any (x : Nat) (hx : x < 65536) (w : World) : Calls Tryd.prog 44 #[.int .u32 (x : Int)] w fun e w' => e = .returned (.int .i64 (pcW 16 x : Nat)) ∧ Below w.heap.size w w' := by
  have hxi : (x : Int) ≤ 65535 := by omega
  have a1 : (x : Int) / 16777216 = 0 := by omega
  have a2 : (x : Int) / 65536 = 0 := by omega
  have b2 : bits .and .u32 0 255 = 0 := by decide
  obtain ⟨h, hh⟩ : ∃ h, x / 256 = h := ⟨_, rfl⟩
  obtain ⟨l, hl⟩ : ∃ l, x % 256 = l := ⟨_, rfl⟩
  have a3 : (x : Int) / 256 = h := by omega
  have b3 : bits .and .u32 (h : Int) 255 = h := by rw [and255 h (by omega), Nat.mod_eq_of_lt (by omega)]
  have b4 : bits .and .u32 (x : Int) 255 = l := by rw [and255 x (by omega), hl]
  have hh256 : h < 256 := by omega
  have hl256 : l < 256 := by omega
  have hhi : (h : Int) < 256 := by omega
  have hli : (l : Int) < 256 := by omega
  go_enter Tryd.func44, Tryd.ntmps44
  go_wp2_with (fail)
  go_quiet (fail)
  go_wp2_with (fail)
  go_ret
  exact ⟨congrArg (fun v => Ending.returned (Value.int .i64 v)) (ones_sum _ h l x hh hl hh256 _ _ _ (by decide +kernel)), below_drewN (Below.refl _ _) _⟩
end Go.Proofs.YtfcfhiekkpflcaaDoor
