/- DresserKnown: the examples of the chapter. (Printed by genknown.py.) -/
import Derived.Test.YtbgakdpbglpfaaaGreatDoorDrXi
namespace Go.Proofs.YtbgakdpbglpfaaaGreatDoor
open Go.RowKit
namespace Dr
set_option linter.unusedSimpArgs false
theorem kn_0 : exA.ask ⟨#[104, 101, 114, 111, 110]⟩ [] couldC = ([0], 0) := by decide +kernel
theorem kn_1 : exA.ask ⟨#[104, 101, 114, 111, 110]⟩ [] (·.stock) = ([], 0) := by decide +kernel
theorem kn_2 : (readF ⟨#[97, 105, 103, 114, 101, 116, 116, 101, 32, 48, 10, 115, 117, 109, 32, 56, 53, 52, 54, 10]⟩).1 = 17 := by decide +kernel
theorem kn_3 : (readF ⟨#[97, 105, 103, 114, 101, 116, 116, 101, 32, 49, 10, 115, 117, 109, 32, 56, 53, 52, 55, 10]⟩).1 = 9 := by decide +kernel
theorem kn_4 : (readF ⟨#[97, 105, 103, 114, 101, 116, 116, 101, 32, 48, 10, 115, 117, 109, 32, 56, 53, 52, 55, 10]⟩).1 = 0 := by decide +kernel
theorem kn_5 : exA.would ⟨#[100, 114, 97, 119, 101, 114, 32, 72, 101, 114, 111, 110]⟩ = 8 := by decide +kernel
theorem kn_6 : exA.done ⟨#[100, 114, 97, 119, 101, 114, 32, 72, 101, 114, 111, 110]⟩ = exA := by decide +kernel
theorem kn_7 : exA.would ⟨#[100, 114, 97, 119, 101, 114]⟩ = 5 := by decide +kernel
theorem kn_8 : exA.done ⟨#[100, 114, 97, 119, 101, 114]⟩ = exA := by decide +kernel
theorem kn_9 : exA.would ⟨#[102, 108, 121, 32, 104, 101, 114, 111, 110]⟩ = 10 := by decide +kernel
theorem kn_10 : exA.done ⟨#[102, 108, 121, 32, 104, 101, 114, 111, 110]⟩ = exA := by decide +kernel
theorem kn_11 : exA.would ⟨#[98, 117, 121, 32, 104, 101, 114, 111, 110, 32, 50, 32, 48]⟩ = 1 := by decide +kernel
theorem kn_12 : exA.done ⟨#[98, 117, 121, 32, 104, 101, 114, 111, 110, 32, 50, 32, 48]⟩ = exA := by decide +kernel
theorem kn_13 : exA.would ⟨#[98, 117, 121, 32, 111, 115, 116, 114, 105, 99, 104, 32, 51, 32, 49]⟩ = 2 := by decide +kernel
theorem kn_14 : exA.done ⟨#[98, 117, 121, 32, 111, 115, 116, 114, 105, 99, 104, 32, 51, 32, 49]⟩ = exA := by decide +kernel
theorem kn_15 : exA.would ⟨#[98, 117, 121, 32, 111, 115, 116, 114, 105, 99, 104, 32, 50, 32, 51, 56]⟩ = 15 := by decide +kernel
theorem kn_16 : exA.done ⟨#[98, 117, 121, 32, 111, 115, 116, 114, 105, 99, 104, 32, 50, 32, 51, 56]⟩ = exA := by decide +kernel
theorem kn_17 : exA.would ⟨#[115, 105, 122, 101, 32, 104, 101, 114, 111, 110, 32, 51, 49]⟩ = 1 := by decide +kernel
theorem kn_18 : exA.done ⟨#[115, 105, 122, 101, 32, 104, 101, 114, 111, 110, 32, 51, 49]⟩ = exA := by decide +kernel
theorem kn_19 : exA.would ⟨#[115, 105, 122, 101, 32, 104, 101, 114, 111, 110, 32, 48, 53]⟩ = 9 := by decide +kernel
theorem kn_20 : exA.done ⟨#[115, 105, 122, 101, 32, 104, 101, 114, 111, 110, 32, 48, 53]⟩ = exA := by decide +kernel
theorem kn_21 : exA.would ⟨#[111, 114, 100, 101, 114, 32, 98, 111, 98, 32, 104, 101, 114, 111, 110, 32, 49]⟩ = 12 := by decide +kernel
theorem kn_22 : exA.done ⟨#[111, 114, 100, 101, 114, 32, 98, 111, 98, 32, 104, 101, 114, 111, 110, 32, 49]⟩ = exA := by decide +kernel
/-- all of them, the book as a letter -/
theorem kn_all : ∃ A : Book, (toldP linesB).2 = true ∧ (toldP linesB).1 = A ∧ (A.ask ⟨#[104, 101, 114, 111, 110]⟩ [] couldC = ([0], 0)) ∧ (A.ask ⟨#[104, 101, 114, 111, 110]⟩ [] (·.stock) = ([], 0)) ∧ ((readF ⟨#[97, 105, 103, 114, 101, 116, 116, 101, 32, 48, 10, 115, 117, 109, 32, 56, 53, 52, 54, 10]⟩).1 = 17) ∧ ((readF ⟨#[97, 105, 103, 114, 101, 116, 116, 101, 32, 49, 10, 115, 117, 109, 32, 56, 53, 52, 55, 10]⟩).1 = 9) ∧ ((readF ⟨#[97, 105, 103, 114, 101, 116, 116, 101, 32, 48, 10, 115, 117, 109, 32, 56, 53, 52, 55, 10]⟩).1 = 0) ∧ (A.would ⟨#[100, 114, 97, 119, 101, 114, 32, 72, 101, 114, 111, 110]⟩ = 8) ∧ (A.done ⟨#[100, 114, 97, 119, 101, 114, 32, 72, 101, 114, 111, 110]⟩ = A) ∧ (A.would ⟨#[100, 114, 97, 119, 101, 114]⟩ = 5) ∧ (A.done ⟨#[100, 114, 97, 119, 101, 114]⟩ = A) ∧ (A.would ⟨#[102, 108, 121, 32, 104, 101, 114, 111, 110]⟩ = 10) ∧ (A.done ⟨#[102, 108, 121, 32, 104, 101, 114, 111, 110]⟩ = A) ∧ (A.would ⟨#[98, 117, 121, 32, 104, 101, 114, 111, 110, 32, 50, 32, 48]⟩ = 1) ∧ (A.done ⟨#[98, 117, 121, 32, 104, 101, 114, 111, 110, 32, 50, 32, 48]⟩ = A) ∧ (A.would ⟨#[98, 117, 121, 32, 111, 115, 116, 114, 105, 99, 104, 32, 51, 32, 49]⟩ = 2) ∧ (A.done ⟨#[98, 117, 121, 32, 111, 115, 116, 114, 105, 99, 104, 32, 51, 32, 49]⟩ = A) ∧ (A.would ⟨#[98, 117, 121, 32, 111, 115, 116, 114, 105, 99, 104, 32, 50, 32, 51, 56]⟩ = 15) ∧ (A.done ⟨#[98, 117, 121, 32, 111, 115, 116, 114, 105, 99, 104, 32, 50, 32, 51, 56]⟩ = A) ∧ (A.would ⟨#[115, 105, 122, 101, 32, 104, 101, 114, 111, 110, 32, 51, 49]⟩ = 1) ∧ (A.done ⟨#[115, 105, 122, 101, 32, 104, 101, 114, 111, 110, 32, 51, 49]⟩ = A) ∧ (A.would ⟨#[115, 105, 122, 101, 32, 104, 101, 114, 111, 110, 32, 48, 53]⟩ = 9) ∧ (A.done ⟨#[115, 105, 122, 101, 32, 104, 101, 114, 111, 110, 32, 48, 53]⟩ = A) ∧ (A.would ⟨#[111, 114, 100, 101, 114, 32, 98, 111, 98, 32, 104, 101, 114, 111, 110, 32, 49]⟩ = 12) ∧ (A.done ⟨#[111, 114, 100, 101, 114, 32, 98, 111, 98, 32, 104, 101, 114, 111, 110, 32, 49]⟩ = A) :=
  ⟨exA, ex_0, ex_1, kn_0, kn_1, kn_2, kn_3, kn_4, kn_5, kn_6, kn_7, kn_8, kn_9, kn_10, kn_11, kn_12, kn_13, kn_14, kn_15, kn_16, kn_17, kn_18, kn_19, kn_20, kn_21, kn_22⟩
/-- a book, and rows of numbers that were asked for -/
structure Kn (w0 w : World) (gb : Nat) (A : Book) (ns : List (Value × List Nat)) : Prop where
  b : Bk w0 w gb A
  n : ∀ p ∈ ns, OwnN w p.1 p.2
theorem Kn.callee {w0 w w' : World} {gb : Nat} {A : Book} {ns : List (Value × List Nat)} (h : Kn w0 w gb A ns) (hb : Below w.heap.size w w') : Kn w0 w' gb A ns :=
  ⟨h.b.callee hb, fun p hp => OwnI.callee (h.n p hp) hb⟩
theorem Kn.add {w0 w : World} {gb : Nat} {A : Book} {ns : List (Value × List Nat)} (h : Kn w0 w gb A ns) {v : Value} {xs : List Nat} (hv : OwnN w v xs) : Kn w0 w gb A ((v, xs) :: ns) :=
  ⟨h.b, fun p hp => by
    rcases List.mem_cons.1 hp with rfl | hp
    · exact hv
    · exact h.n p hp⟩
theorem read_no {file : ByteArray} {E : Int} (h : (readF file).1 = E) (h0 : E ≠ 0) (w : World) (T : Tabs w) : Calls Tryz.prog 47 #[.string file] w fun e w' => e = .returned (.tuple #[.pointer none, .int .i64 E]) ∧ Below w.heap.size w w' := by
  refine (read_file T file).mono ?_
  rintro e w' (⟨_, rfl, hb⟩ | ⟨h1, _⟩)
  · rw [h]
    exact ⟨rfl, hb⟩
  · exact absurd (h.symm.trans h1) h0
theorem read_yes {file : ByteArray} (h : (readF file).1 = 0) (w : World) (T : Tabs w) : Calls Tryz.prog 47 #[.string file] w fun e w' => ∃ gb, e = .returned (.tuple #[.pointer (some ⟨gb, 0, none⟩), .int .i64 0]) ∧ Below w.heap.size w w' := by
  refine (read_file T file).mono ?_
  rintro e w' (⟨h1, _⟩ | ⟨_, gb, rfl, hB⟩)
  · exact absurd h h1
  · exact ⟨gb, rfl, hB.below⟩
set_option maxRecDepth 100000 in
set_option maxHeartbeats 4000000 in
theorem known_law (w : World) (T : Tabs w) : Calls Tryz.prog 10 #[] w fun e w' => e = .returned (.bool true) ∧ Below w.heap.size w w' := by
  have HT := Lib.hid T
  have HWO := Lib.hid (fun (w' : World) (hb : Below w.heap.size w w') => works_any w' (T.below hb))
  clear T
  obtain ⟨A, f0, f1, k0, k1, k2, k3, k4, k5, k6, k7, k8, k9, k10, k11, k12, k13, k14, k15, k16, k17, k18, k19, k20, k21, k22⟩ := kn_all
  replace f0 := Lib.hid f0
  replace f1 := Lib.hid f1
  replace k0 := Lib.hid k0
  replace k1 := Lib.hid k1
  replace k2 := Lib.hid k2
  replace k3 := Lib.hid k3
  replace k4 := Lib.hid k4
  replace k5 := Lib.hid k5
  replace k6 := Lib.hid k6
  replace k7 := Lib.hid k7
  replace k8 := Lib.hid k8
  replace k9 := Lib.hid k9
  replace k10 := Lib.hid k10
  replace k11 := Lib.hid k11
  replace k12 := Lib.hid k12
  replace k13 := Lib.hid k13
  replace k14 := Lib.hid k14
  replace k15 := Lib.hid k15
  replace k16 := Lib.hid k16
  replace k17 := Lib.hid k17
  replace k18 := Lib.hid k18
  replace k19 := Lib.hid k19
  replace k20 := Lib.hid k20
  replace k21 := Lib.hid k21
  replace k22 := Lib.hid k22
  have HS0 : Hid (∀ (w : World) (v : Value), OwnN w v [0] → Calls Tryz.prog 46 #[v, .slice (some ⟨w.heap.size, 0, none⟩) 1 1] (w.alloc (.cells #[.int .i64 0] 3)) fun e w' => e = .returned (.bool true) ∧ Below w.heap.size w w') := fun w v h => same_new h rfl rfl (by decide) rfl
  go_enter Tryz.func10, Tryz.ntmps10
  go_wp2_with (first
    | (go_at_call 50; (with_reducible refine (B_any _).mono ?_); rintro e wB ⟨g0, rfl, hR, hbl⟩; have HR := Lib.hid hR; have HBL := Lib.hid hbl; clear hR hbl)
    | (go_at_call 49; (with_reducible refine (told_any (HT.out.below HBL.out) _ 6 6 linesB (by decide) HR.out).mono ?_); rintro e w0 ⟨gb, he, hB⟩; rw [f0.out] at he; rw [f1.out] at hB; subst he; have HP : Kn w w0 gb A [] := ⟨hB.base HBL.out, fun p hp => by cases hp⟩; clear hB HR HBL)
    | (go_at_call 31; (with_reducible refine (bk_could HP.b ⟨#[104, 101, 114, 111, 110]⟩ k0.out).mono ?_); rintro e w3 ⟨vc, he, hO, _, hb⟩; replace he : e = .returned (.tuple #[vc, .int .i64 0]) := he; subst he; replace HP := (HP.callee hb).add hO; clear hO hb)
    | (go_at_call 29; (with_reducible refine (bk_stock HP.b ⟨#[104, 101, 114, 111, 110]⟩ k1.out).mono ?_); rintro e w3 ⟨vs, he, hO, _, hb⟩; replace he : e = .returned (.tuple #[vs, .int .i64 0]) := he; subst he; replace HP := HP.callee hb; obtain ⟨Ps, cs, rfl, _⟩ := ownN_form hO; clear hO hb)
    | (go_at_call 47; (with_reducible refine (read_no k2.out (by decide) _ (HT.out.below HP.b.below)).mono ?_); rintro e w3 ⟨rfl, hb⟩; replace HP := HP.callee hb; clear hb)
    | (go_at_call 47; (with_reducible refine (read_no k3.out (by decide) _ (HT.out.below HP.b.below)).mono ?_); rintro e w3 ⟨rfl, hb⟩; replace HP := HP.callee hb; clear hb)
    | (go_at_call 47; (with_reducible refine (read_yes k4.out _ (HT.out.below HP.b.below)).mono ?_); rintro e w3 ⟨gr, rfl, hb⟩; replace HP := HP.callee hb; clear hb)
    | (go_at_call 51; (with_reducible refine (numbers_same _ _).mono ?_); rintro e wq ⟨rfl, hw⟩; replace hw := hw.symm; subst hw)
    | (go_at_call 46; (with_reducible refine (HS0.out _ _ (HP.n (vc, [0]) (by simp))).mono ?_); rintro e w3 ⟨rfl, hb⟩; replace HP := HP.callee hb; clear hb)
    | (go_at_call 20; (with_reducible refine (bk_do HT.out HP.b ⟨#[100, 114, 97, 119, 101, 114, 32, 72, 101, 114, 111, 110]⟩ k5.out k6.out).mono ?_); rintro e w3 ⟨rfl, hB⟩; replace HP : Kn w w3 gb A [] := ⟨hB, fun p hp => by cases hp⟩; clear hB)
    | (go_at_call 20; (with_reducible refine (bk_do HT.out HP.b ⟨#[100, 114, 97, 119, 101, 114]⟩ k7.out k8.out).mono ?_); rintro e w3 ⟨rfl, hB⟩; replace HP : Kn w w3 gb A [] := ⟨hB, fun p hp => by cases hp⟩; clear hB)
    | (go_at_call 20; (with_reducible refine (bk_do HT.out HP.b ⟨#[102, 108, 121, 32, 104, 101, 114, 111, 110]⟩ k9.out k10.out).mono ?_); rintro e w3 ⟨rfl, hB⟩; replace HP : Kn w w3 gb A [] := ⟨hB, fun p hp => by cases hp⟩; clear hB)
    | (go_at_call 20; (with_reducible refine (bk_do HT.out HP.b ⟨#[98, 117, 121, 32, 104, 101, 114, 111, 110, 32, 50, 32, 48]⟩ k11.out k12.out).mono ?_); rintro e w3 ⟨rfl, hB⟩; replace HP : Kn w w3 gb A [] := ⟨hB, fun p hp => by cases hp⟩; clear hB)
    | (go_at_call 20; (with_reducible refine (bk_do HT.out HP.b ⟨#[98, 117, 121, 32, 111, 115, 116, 114, 105, 99, 104, 32, 51, 32, 49]⟩ k13.out k14.out).mono ?_); rintro e w3 ⟨rfl, hB⟩; replace HP : Kn w w3 gb A [] := ⟨hB, fun p hp => by cases hp⟩; clear hB)
    | (go_at_call 20; (with_reducible refine (bk_do HT.out HP.b ⟨#[98, 117, 121, 32, 111, 115, 116, 114, 105, 99, 104, 32, 50, 32, 51, 56]⟩ k15.out k16.out).mono ?_); rintro e w3 ⟨rfl, hB⟩; replace HP : Kn w w3 gb A [] := ⟨hB, fun p hp => by cases hp⟩; clear hB)
    | (go_at_call 20; (with_reducible refine (bk_do HT.out HP.b ⟨#[115, 105, 122, 101, 32, 104, 101, 114, 111, 110, 32, 51, 49]⟩ k17.out k18.out).mono ?_); rintro e w3 ⟨rfl, hB⟩; replace HP : Kn w w3 gb A [] := ⟨hB, fun p hp => by cases hp⟩; clear hB)
    | (go_at_call 20; (with_reducible refine (bk_do HT.out HP.b ⟨#[115, 105, 122, 101, 32, 104, 101, 114, 111, 110, 32, 48, 53]⟩ k19.out k20.out).mono ?_); rintro e w3 ⟨rfl, hB⟩; replace HP : Kn w w3 gb A [] := ⟨hB, fun p hp => by cases hp⟩; clear hB)
    | (go_at_call 20; (with_reducible refine (bk_do HT.out HP.b ⟨#[111, 114, 100, 101, 114, 32, 98, 111, 98, 32, 104, 101, 114, 111, 110, 32, 49]⟩ k21.out k22.out).mono ?_); rintro e w3 ⟨rfl, hB⟩; replace HP : Kn w w3 gb A [] := ⟨hB, fun p hp => by cases hp⟩; clear hB)
    | (go_at_call 14; (with_reducible refine (HWO.out _ HP.b.below).mono ?_); rintro e w9 ⟨rfl, hb9⟩)
    | fail)
  go_ret
  exact ⟨rfl, HP.b.below.trans (hb9.mono HP.b.below.size)⟩
end Dr
end Go.Proofs.YtbgakdpbglpfaaaGreatDoor
