/- Plain: TopNested: what was tried, joined: all good orders of at most 8 pairs. (Printed by gennest2.py.) -/
import Derived.Test.YthbkfhhnhiplkaaGreatDoorNesQ
import Derived.Test.YthbkfhhnhiplkaaGreatDoorNesR7
import Derived.Test.YthbkfhhnhiplkaaGreatDoorNesR8a
import Derived.Test.YthbkfhhnhiplkaaGreatDoorNesR8b
import Derived.Test.YthbkfhhnhiplkaaGreatDoorNesR8c
import Derived.Test.YthbkfhhnhiplkaaGreatDoorNesR8d
import Derived.Test.YthbkfhhnhiplkaaGreatDoorNesR8e
import Derived.Test.YthbkfhhnhiplkaaGreatDoorNesS
namespace Go.Proofs.YthbkfhhnhiplkaaGreatDoor
namespace Ns
theorem of_part {n lo m : Nat} (h : ((List.range m).all fun j => nestOk n (j + lo)) = true) (k : Nat) (h1 : lo ≤ k) (h2 : k < lo + m) : nestOk n k = true := by
  have h3 := List.all_eq_true.1 h (k - lo) (List.mem_range.2 (by omega))
  rwa [Nat.sub_add_cancel h1] at h3
theorem of_all {n : Nat} (h : nestAll n = true) (k : Nat) (hk : k < nestN n) : nestOk n k = true := by
  unfold nestAll at h
  simp only [Bool.and_eq_true, List.all_eq_true, List.mem_range] at h
  exact h.2 k hk
theorem nest7 (k : Nat) (h : k < 429) : nestOk 7 k = true := by
  by_cases h0 : k < 33
  · exact of_part nest_7_0 k (by omega) h0
  by_cases h33 : k < 66
  · exact of_part nest_7_33 k (by omega) h33
  by_cases h66 : k < 99
  · exact of_part nest_7_66 k (by omega) h66
  by_cases h99 : k < 132
  · exact of_part nest_7_99 k (by omega) h99
  by_cases h132 : k < 165
  · exact of_part nest_7_132 k (by omega) h132
  by_cases h165 : k < 198
  · exact of_part nest_7_165 k (by omega) h165
  by_cases h198 : k < 231
  · exact of_part nest_7_198 k (by omega) h198
  by_cases h231 : k < 264
  · exact of_part nest_7_231 k (by omega) h231
  by_cases h264 : k < 297
  · exact of_part nest_7_264 k (by omega) h264
  by_cases h297 : k < 330
  · exact of_part nest_7_297 k (by omega) h297
  by_cases h330 : k < 363
  · exact of_part nest_7_330 k (by omega) h330
  by_cases h363 : k < 396
  · exact of_part nest_7_363 k (by omega) h363
  exact of_part nest_7_396 k (by omega) (by omega)
theorem nest8 (k : Nat) (h : k < 1430) : nestOk 8 k = true := by
  by_cases h0 : k < 26
  · exact of_part nest_8_0 k (by omega) h0
  by_cases h26 : k < 52
  · exact of_part nest_8_26 k (by omega) h26
  by_cases h52 : k < 78
  · exact of_part nest_8_52 k (by omega) h52
  by_cases h78 : k < 104
  · exact of_part nest_8_78 k (by omega) h78
  by_cases h104 : k < 130
  · exact of_part nest_8_104 k (by omega) h104
  by_cases h130 : k < 156
  · exact of_part nest_8_130 k (by omega) h130
  by_cases h156 : k < 182
  · exact of_part nest_8_156 k (by omega) h156
  by_cases h182 : k < 208
  · exact of_part nest_8_182 k (by omega) h182
  by_cases h208 : k < 234
  · exact of_part nest_8_208 k (by omega) h208
  by_cases h234 : k < 260
  · exact of_part nest_8_234 k (by omega) h234
  by_cases h260 : k < 286
  · exact of_part nest_8_260 k (by omega) h260
  by_cases h286 : k < 312
  · exact of_part nest_8_286 k (by omega) h286
  by_cases h312 : k < 338
  · exact of_part nest_8_312 k (by omega) h312
  by_cases h338 : k < 364
  · exact of_part nest_8_338 k (by omega) h338
  by_cases h364 : k < 390
  · exact of_part nest_8_364 k (by omega) h364
  by_cases h390 : k < 416
  · exact of_part nest_8_390 k (by omega) h390
  by_cases h416 : k < 442
  · exact of_part nest_8_416 k (by omega) h416
  by_cases h442 : k < 468
  · exact of_part nest_8_442 k (by omega) h442
  by_cases h468 : k < 494
  · exact of_part nest_8_468 k (by omega) h468
  by_cases h494 : k < 520
  · exact of_part nest_8_494 k (by omega) h494
  by_cases h520 : k < 546
  · exact of_part nest_8_520 k (by omega) h520
  by_cases h546 : k < 572
  · exact of_part nest_8_546 k (by omega) h546
  by_cases h572 : k < 598
  · exact of_part nest_8_572 k (by omega) h572
  by_cases h598 : k < 624
  · exact of_part nest_8_598 k (by omega) h598
  by_cases h624 : k < 650
  · exact of_part nest_8_624 k (by omega) h624
  by_cases h650 : k < 676
  · exact of_part nest_8_650 k (by omega) h650
  by_cases h676 : k < 702
  · exact of_part nest_8_676 k (by omega) h676
  by_cases h702 : k < 728
  · exact of_part nest_8_702 k (by omega) h702
  by_cases h728 : k < 754
  · exact of_part nest_8_728 k (by omega) h728
  by_cases h754 : k < 780
  · exact of_part nest_8_754 k (by omega) h754
  by_cases h780 : k < 806
  · exact of_part nest_8_780 k (by omega) h780
  by_cases h806 : k < 832
  · exact of_part nest_8_806 k (by omega) h806
  by_cases h832 : k < 858
  · exact of_part nest_8_832 k (by omega) h832
  by_cases h858 : k < 884
  · exact of_part nest_8_858 k (by omega) h858
  by_cases h884 : k < 910
  · exact of_part nest_8_884 k (by omega) h884
  by_cases h910 : k < 936
  · exact of_part nest_8_910 k (by omega) h910
  by_cases h936 : k < 962
  · exact of_part nest_8_936 k (by omega) h936
  by_cases h962 : k < 988
  · exact of_part nest_8_962 k (by omega) h962
  by_cases h988 : k < 1014
  · exact of_part nest_8_988 k (by omega) h988
  by_cases h1014 : k < 1040
  · exact of_part nest_8_1014 k (by omega) h1014
  by_cases h1040 : k < 1066
  · exact of_part nest_8_1040 k (by omega) h1040
  by_cases h1066 : k < 1092
  · exact of_part nest_8_1066 k (by omega) h1066
  by_cases h1092 : k < 1118
  · exact of_part nest_8_1092 k (by omega) h1092
  by_cases h1118 : k < 1144
  · exact of_part nest_8_1118 k (by omega) h1118
  by_cases h1144 : k < 1170
  · exact of_part nest_8_1144 k (by omega) h1144
  by_cases h1170 : k < 1196
  · exact of_part nest_8_1170 k (by omega) h1170
  by_cases h1196 : k < 1222
  · exact of_part nest_8_1196 k (by omega) h1196
  by_cases h1222 : k < 1248
  · exact of_part nest_8_1222 k (by omega) h1222
  by_cases h1248 : k < 1274
  · exact of_part nest_8_1248 k (by omega) h1248
  by_cases h1274 : k < 1300
  · exact of_part nest_8_1274 k (by omega) h1274
  by_cases h1300 : k < 1326
  · exact of_part nest_8_1300 k (by omega) h1300
  by_cases h1326 : k < 1352
  · exact of_part nest_8_1326 k (by omega) h1326
  by_cases h1352 : k < 1378
  · exact of_part nest_8_1352 k (by omega) h1352
  by_cases h1378 : k < 1404
  · exact of_part nest_8_1378 k (by omega) h1378
  exact of_part nest_8_1404 k (by omega) (by omega)
theorem num_7 : nestN 7 = 429 := by decide +kernel
theorem num_8 : nestN 8 = 1430 := by decide +kernel
theorem nest_any (n k : Nat) (hn : n ≤ 8) (hk : k < nestN n) : nestOk n k = true := by
  have h9 : n = 0 ∨ n = 1 ∨ n = 2 ∨ n = 3 ∨ n = 4 ∨ n = 5 ∨ n = 6 ∨ n = 7 ∨ n = 8 := by omega
  rcases h9 with rfl | rfl | rfl | rfl | rfl | rfl | rfl | rfl | rfl
  · exact of_all nest_0 k hk
  · exact of_all nest_1 k hk
  · exact of_all nest_2 k hk
  · exact of_all nest_3 k hk
  · exact of_all nest_4 k hk
  · exact of_all nest_5 k hk
  · exact of_all nest_6 k hk
  · exact nest7 k (by rw [← num_7]; exact hk)
  · exact nest8 k (by rw [← num_8]; exact hk)
theorem cnt_all : ∀ n : Nat, n < 9 → Ti.cntE n n 0 = 0 ∧ Ti.cntV n n 0 = (nestN n : Int) ∧ 1 ≤ nestN n ∧ nestN n ≤ 1430 := by decide +kernel
end Ns
end Go.Proofs.YthbkfhhnhiplkaaGreatDoor
