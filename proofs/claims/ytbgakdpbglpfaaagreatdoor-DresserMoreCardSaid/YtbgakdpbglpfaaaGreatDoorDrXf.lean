/- works: the chapter's examples, walked. (Printed by genworks.py.) -/
import Derived.Test.YtbgakdpbglpfaaaGreatDoorDrXe
namespace Go.Proofs.YtbgakdpbglpfaaaGreatDoor
open Go.RowKit
namespace Dr
set_option linter.unusedSimpArgs false
set_option maxRecDepth 100000 in
set_option maxHeartbeats 8000000 in
theorem works_any (w : World) (T : Tabs w) : Calls Tryz.prog 14 #[] w fun e w' => e = .returned (.bool true) ∧ Below w.heap.size w w' := by
  obtain ⟨A, B, C, D, E, f0, f1, f2, f3, f4, f5, f6, f7, f8, f9, f10, f11, f12, f13, f14, f15, f16, f17, f18, f19, f20, f21, f22, f23, f24, f25, f26, f27, f28, f29, f30, f31, f32, f33, f34, f35, f36, f37⟩ := ex_all
  replace f0 := Lib.hid f0
  replace f1 := Lib.hid f1
  replace f2 := Lib.hid f2
  replace f3 := Lib.hid f3
  replace f4 := Lib.hid f4
  replace f5 := Lib.hid f5
  replace f6 := Lib.hid f6
  replace f7 := Lib.hid f7
  replace f8 := Lib.hid f8
  replace f9 := Lib.hid f9
  replace f10 := Lib.hid f10
  replace f11 := Lib.hid f11
  replace f12 := Lib.hid f12
  replace f13 := Lib.hid f13
  replace f14 := Lib.hid f14
  replace f15 := Lib.hid f15
  replace f16 := Lib.hid f16
  replace f17 := Lib.hid f17
  replace f18 := Lib.hid f18
  replace f19 := Lib.hid f19
  replace f20 := Lib.hid f20
  replace f21 := Lib.hid f21
  replace f22 := Lib.hid f22
  replace f23 := Lib.hid f23
  replace f24 := Lib.hid f24
  replace f25 := Lib.hid f25
  replace f26 := Lib.hid f26
  replace f27 := Lib.hid f27
  replace f28 := Lib.hid f28
  replace f29 := Lib.hid f29
  replace f30 := Lib.hid f30
  replace f31 := Lib.hid f31
  replace f32 := Lib.hid f32
  replace f33 := Lib.hid f33
  replace f34 := Lib.hid f34
  replace f35 := Lib.hid f35
  replace f36 := Lib.hid f36
  replace f37 := Lib.hid f37
  have HT := Lib.hid T
  have HBB := Lib.hid (B_any w)
  have hfin : (ByteArray.toList ⟨#[97, 105, 103, 114, 101, 116, 116, 101, 32, 48, 10, 115, 117, 109, 32, 56, 53, 52, 55, 10]⟩ == ByteArray.toList ⟨#[97, 105, 103, 114, 101, 116, 116, 101, 32, 48, 10, 115, 117, 109, 32, 56, 53, 52, 55, 10]⟩) = true := by rw [str_eq]; exact decide_eq_true rfl
  have HS0 : Hid (∀ (w : World) (v : Value), OwnN w v [2, 5] → Calls Tryz.prog 46 #[v, .slice (some ⟨w.heap.size, 0, none⟩) 2 2] (w.alloc (.cells #[.int .i64 2, .int .i64 5] 3)) fun e w' => e = .returned (.bool true) ∧ Below w.heap.size w w') := fun w v h => same_new h rfl rfl (by decide) rfl
  have HS1 : Hid (∀ (w : World) (v : Value), OwnN w v [3, 2] → Calls Tryz.prog 46 #[v, .slice (some ⟨w.heap.size, 0, none⟩) 2 2] (w.alloc (.cells #[.int .i64 3, .int .i64 2] 3)) fun e w' => e = .returned (.bool true) ∧ Below w.heap.size w w') := fun w v h => same_new h rfl rfl (by decide) rfl
  have HS2 : Hid (∀ (w : World) (v : Value), OwnN w v [0, 2, 4, 5, 6, 7, 9, 10, 11, 12, 14, 16] → Calls Tryz.prog 46 #[v, .slice (some ⟨w.heap.size, 0, none⟩) 12 12] (w.alloc (.cells #[.int .i64 0, .int .i64 2, .int .i64 4, .int .i64 5, .int .i64 6, .int .i64 7, .int .i64 9, .int .i64 10, .int .i64 11, .int .i64 12, .int .i64 14, .int .i64 16] 3)) fun e w' => e = .returned (.bool true) ∧ Below w.heap.size w w') := fun w v h => same_new h rfl rfl (by decide) rfl
  have HS3 : Hid (∀ (w : World) (v : Value), OwnN w v [2, 2, 2, 5] → Calls Tryz.prog 46 #[v, .slice (some ⟨w.heap.size, 0, none⟩) 4 4] (w.alloc (.cells #[.int .i64 2, .int .i64 2, .int .i64 2, .int .i64 5] 3)) fun e w' => e = .returned (.bool true) ∧ Below w.heap.size w w') := fun w v h => same_new h rfl rfl (by decide) rfl
  have HS4 : Hid (∀ (w : World) (v : Value), OwnT w v [⟨#[97, 100, 97]⟩] → Calls Tryz.prog 22 #[v, .slice (some ⟨w.heap.size, 0, none⟩) 1 1] (w.alloc (.cells #[.string ⟨#[97, 100, 97]⟩] 9)) fun e w' => e = .returned (.bool true) ∧ Below w.heap.size w w') := fun w v h => texts_new h rfl rfl (by decide) rfl
  have HS5 : Hid (∀ (w : World) (v : Value), OwnT w v [⟨#[111, 115, 116, 114, 105, 99, 104]⟩, ⟨#[104, 101, 114, 111, 110]⟩] → Calls Tryz.prog 22 #[v, .slice (some ⟨w.heap.size, 0, none⟩) 2 2] (w.alloc (.cells #[.string ⟨#[111, 115, 116, 114, 105, 99, 104]⟩, .string ⟨#[104, 101, 114, 111, 110]⟩] 9)) fun e w' => e = .returned (.bool true) ∧ Below w.heap.size w w') := fun w v h => texts_new h rfl rfl (by decide) rfl
  have HS6 : Hid (∀ (w : World) (v : Value), OwnN w v [3, 2] → Calls Tryz.prog 46 #[v, .slice (some ⟨w.heap.size, 0, none⟩) 2 2] (w.alloc (.cells #[.int .i64 3, .int .i64 2] 3)) fun e w' => e = .returned (.bool true) ∧ Below w.heap.size w w') := fun w v h => same_new h rfl rfl (by decide) rfl
  clear T
  go_enter Tryz.func14, Tryz.ntmps14
  go_wp2_with (first
    | (go_at_call 50; (with_reducible refine HBB.out.mono ?_); rintro e wb ⟨gl, rfl, hr, hbb⟩; have HR := Lib.hid hr; have HBL := Lib.hid hbb; clear hr hbb)
    | (go_at_call 49; (with_reducible refine (told_any (HT.out.below HBL.out) _ 6 6 linesB (by decide) HR.out).mono ?_); rintro e w0 ⟨gb, he, hB⟩; rw [f0.out] at he; rw [f1.out] at hB; subst he; have HB0 := Lib.hid (hB.base HBL.out); clear hB HR HBL)
    | (go_at_call 28; (with_reducible refine (bk_sizes HB0.out ⟨#[111, 115, 116, 114, 105, 99, 104]⟩ f2.out).mono ?_); rintro e w1 ⟨v1, he, hO, hB, hb⟩; replace he : e = .returned (.tuple #[v1, .int .i64 0]) := he; subst he; have HB1 := Lib.hid hB; have Hs1 : Hid (OwnN w1 v1 [2, 5]) := hO; clear hO hB hb HB0)
    | (go_at_call 29; (with_reducible refine (bk_stock HB1.out ⟨#[111, 115, 116, 114, 105, 99, 104]⟩ f3.out).mono ?_); rintro e w2 ⟨v2, he, hO, hB, hb⟩; replace he : e = .returned (.tuple #[v2, .int .i64 0]) := he; subst he; have HB2 := Lib.hid hB; have Hk2 : Hid (OwnN w2 v2 [3, 2]) := hO; have Hs2 := Lib.hid (OwnI.callee Hs1.out hb); clear hO hB hb HB1 Hs1)
    | (go_at_call 31; (with_reducible refine (bk_could HB2.out ⟨#[111, 115, 116, 114, 105, 99, 104]⟩ f4.out).mono ?_); rintro e w3 ⟨v3, he, hO, hB, hb⟩; replace he : e = .returned (.tuple #[v3, .int .i64 0]) := he; subst he; have HB3 := Lib.hid hB; have Hc3 : Hid (OwnN w3 v3 [0, 2, 4, 5, 6, 7, 9, 10, 11, 12, 14, 16]) := hO; have Hs3 := Lib.hid (OwnI.callee Hs2.out hb); have Hk3 := Lib.hid (OwnI.callee Hk2.out hb); clear hO hB hb HB2 Hs2 Hk2)
    | (go_at_call 33; (with_reducible refine (bk_next HB3.out ⟨#[111, 115, 116, 114, 105, 99, 104]⟩ 13 f5.out).mono ?_); rintro e w4 ⟨rfl, hB, hb⟩; have HB4 := Lib.hid hB; have Hs4 := Lib.hid (OwnI.callee Hs3.out hb); have Hk4 := Lib.hid (OwnI.callee Hk3.out hb); have Hc4 := Lib.hid (OwnI.callee Hc3.out hb); clear hB hb HB3 Hs3 Hk3 Hc3)
    | (go_at_call 33; (with_reducible refine (bk_next HB4.out ⟨#[111, 115, 116, 114, 105, 99, 104]⟩ 17 f6.out).mono ?_); rintro e w5 ⟨rfl, hB, hb⟩; have HB5 := Lib.hid hB; have Hs5 := Lib.hid (OwnI.callee Hs4.out hb); have Hk5 := Lib.hid (OwnI.callee Hk4.out hb); have Hc5 := Lib.hid (OwnI.callee Hc4.out hb); clear hB hb HB4 Hs4 Hk4 Hc4)
    | (go_at_call 46; (with_reducible refine (HS0.out _ _ Hs5.out).mono ?_); rintro e w6 ⟨rfl, hb⟩; have HB6 := Lib.hid (HB5.out.callee hb); have Hk6 := Lib.hid (OwnI.callee Hk5.out hb); have Hc6 := Lib.hid (OwnI.callee Hc5.out hb); clear hb HB5 Hs5 Hk5 Hc5)
    | (go_at_call 46; (with_reducible refine (HS1.out _ _ Hk6.out).mono ?_); rintro e w7 ⟨rfl, hb⟩; have HB7 := Lib.hid (HB6.out.callee hb); have Hc7 := Lib.hid (OwnI.callee Hc6.out hb); clear hb HB6 Hk6 Hc6)
    | (go_at_call 46; (with_reducible refine (HS2.out _ _ Hc7.out).mono ?_); rintro e w8 ⟨rfl, hb⟩; have HB8 := Lib.hid (HB7.out.callee hb); clear hb HB7 Hc7)
    | (go_at_call 20; (with_reducible refine (bk_do HT.out HB8.out ⟨#[111, 114, 100, 101, 114, 32, 97, 100, 97, 32, 111, 115, 116, 114, 105, 99, 104, 32, 49, 51]⟩ f7.out f8.out).mono ?_); rintro e w9 ⟨rfl, hB⟩; have HB9 := Lib.hid hB; clear hB HB8)
    | (go_at_call 20; (with_reducible refine (bk_do HT.out HB9.out ⟨#[111, 114, 100, 101, 114, 32, 97, 100, 97, 32, 111, 115, 116, 114, 105, 99, 104, 32, 49, 49]⟩ f9.out f10.out).mono ?_); rintro e w10 ⟨rfl, hB⟩; have HB10 := Lib.hid hB; clear hB HB9)
    | (go_at_call 20; (with_reducible refine (bk_do HT.out HB10.out ⟨#[111, 114, 100, 101, 114, 32, 97, 100, 97, 32, 111, 115, 116, 114, 105, 99, 104, 32, 50]⟩ f11.out f12.out).mono ?_); rintro e w11 ⟨rfl, hB⟩; have HB11 := Lib.hid hB; clear hB HB10)
    | (go_at_call 20; (with_reducible refine (bk_do HT.out HB11.out ⟨#[109, 111, 116, 104, 32, 111, 115, 116, 114, 105, 99, 104, 32, 50]⟩ f13.out f14.out).mono ?_); rintro e w12 ⟨rfl, hB⟩; have HB12 := Lib.hid hB; clear hB HB11)
    | (go_at_call 19; (with_reducible refine (bk_would HT.out HB12.out ⟨#[109, 111, 116, 104, 32, 111, 115, 116, 114, 105, 99, 104, 32, 53]⟩ f15.out).mono ?_); rintro e w13 ⟨rfl, hB⟩; have HB13 := Lib.hid hB; clear hB HB12)
    | (go_at_call 20; (with_reducible refine (bk_do HT.out HB13.out ⟨#[99, 111, 117, 110, 116, 32, 111, 115, 116, 114, 105, 99, 104, 32, 53, 32, 50]⟩ f16.out f17.out).mono ?_); rintro e w14 ⟨rfl, hB⟩; have HB14 := Lib.hid hB; clear hB HB13)
    | (go_at_call 20; (with_reducible refine (bk_do HT.out HB14.out ⟨#[99, 111, 117, 110, 116, 32, 111, 115, 116, 114, 105, 99, 104, 32, 53, 32, 49]⟩ f18.out f19.out).mono ?_); rintro e w15 ⟨rfl, hB⟩; have HB15 := Lib.hid hB; clear hB HB14)
    | (go_at_call 30; (with_reducible refine (bk_filled HB15.out ⟨#[97, 100, 97]⟩ f20.out).mono ?_); rintro e w16 ⟨v16, he, hO, hB, hb⟩; replace he : e = .returned (.tuple #[v16, .int .i64 0]) := he; subst he; have HB16 := Lib.hid hB; have Hp16 : Hid (OwnN w16 v16 [2, 2, 2, 5]) := hO; clear hO hB hb HB15)
    | (go_at_call 32; (with_reducible refine (bk_out HB16.out ⟨#[111, 115, 116, 114, 105, 99, 104]⟩ f21.out).mono ?_); rintro e w17 ⟨v17, he, hO, hB, hb⟩; replace he : e = .returned (.tuple #[v17, .int .i64 0]) := he; subst he; have HB17 := Lib.hid hB; have Ho17 : Hid (OwnT w17 v17 [⟨#[97, 100, 97]⟩]) := hO; have Hp17 := Lib.hid (OwnI.callee Hp16.out hb); clear hO hB hb HB16 Hp16)
    | (go_at_call 34; (with_reducible refine (bk_feathers HB17.out ⟨#[111, 115, 116, 114, 105, 99, 104]⟩ f22.out).mono ?_); rintro e w18 ⟨he, hB, hb⟩; replace he : e = .returned (.tuple #[.int .i64 16, .int .i64 5, .int .i64 11, .int .i64 0, .int .i64 0]) := he; subst he; have HB18 := Lib.hid hB; have Hp18 := Lib.hid (OwnI.callee Hp17.out hb); have Ho18 := Lib.hid (OwnS.callee Ho17.out hb); clear hB hb HB17 Hp17 Ho17)
    | (go_at_call 46; (with_reducible refine (HS3.out _ _ Hp18.out).mono ?_); rintro e w19 ⟨rfl, hb⟩; have HB19 := Lib.hid (HB18.out.callee hb); have Ho19 := Lib.hid (OwnS.callee Ho18.out hb); clear hb HB18 Hp18 Ho18)
    | (go_at_call 22; (with_reducible refine (HS4.out _ _ Ho19.out).mono ?_); rintro e w20 ⟨rfl, hb⟩; have HB20 := Lib.hid (HB19.out.callee hb); clear hb HB19 Ho19)
    | (go_at_call 35; (with_reducible refine (bk_drawers HB20.out f23.out).mono ?_); rintro e w21 ⟨v21, rfl, hO, hB, hb⟩; have HB21 := Lib.hid hB; have Hd21 : Hid (OwnT w21 v21 [⟨#[111, 115, 116, 114, 105, 99, 104]⟩, ⟨#[104, 101, 114, 111, 110]⟩]) := hO; clear hO hB hb HB20)
    | (go_at_call 22; (with_reducible refine (HS5.out _ _ Hd21.out).mono ?_); rintro e w22 ⟨rfl, hb⟩; have HB22 := Lib.hid (HB21.out.callee hb); clear hb HB21 Hd21)
    | (go_at_call 20; (with_reducible refine (bk_do HT.out HB22.out ⟨#[115, 104, 117, 116, 32, 111, 115, 116, 114, 105, 99, 104]⟩ f24.out f25.out).mono ?_); rintro e w23 ⟨rfl, hB⟩; have HB23 := Lib.hid hB; clear hB HB22)
    | (go_at_call 20; (with_reducible refine (bk_do HT.out HB23.out ⟨#[98, 97, 99, 107, 32, 97, 100, 97]⟩ f26.out f27.out).mono ?_); rintro e w24 ⟨rfl, hB⟩; have HB24 := Lib.hid hB; clear hB HB23)
    | (go_at_call 17; (with_reducible refine (bk_undo HT.out HB24.out f28.out).mono ?_); rintro e w25 ⟨rfl, hB⟩; have HB25 := Lib.hid hB; clear hB HB24)
    | (go_at_call 20; (with_reducible refine (bk_do HT.out HB25.out ⟨#[98, 97, 99, 107, 32, 97, 100, 97]⟩ f29.out f30.out).mono ?_); rintro e w26 ⟨rfl, hB⟩; have HB26 := Lib.hid hB; clear hB HB25)
    | (go_at_call 20; (with_reducible refine (bk_do HT.out HB26.out ⟨#[98, 97, 99, 107, 32, 97, 100, 97]⟩ f31.out f32.out).mono ?_); rintro e w27 ⟨rfl, hB⟩; have HB27 := Lib.hid hB; clear hB HB26)
    | (go_at_call 20; (with_reducible refine (bk_do HT.out HB27.out ⟨#[111, 114, 100, 101, 114, 32, 97, 100, 97, 32, 111, 115, 116, 114, 105, 99, 104, 32, 50]⟩ f33.out f34.out).mono ?_); rintro e w28 ⟨rfl, hB⟩; have HB28 := Lib.hid hB; clear hB HB27)
    | (go_at_call 29; (with_reducible refine (bk_stock HB28.out ⟨#[111, 115, 116, 114, 105, 99, 104]⟩ f35.out).mono ?_); rintro e w29 ⟨v29, he, hO, hB, hb⟩; replace he : e = .returned (.tuple #[v29, .int .i64 0]) := he; subst he; have HB29 := Lib.hid hB; have Hz29 : Hid (OwnN w29 v29 [3, 2]) := hO; clear hO hB hb HB28)
    | (go_at_call 15; (with_reducible refine (bk_new HB29.out.below).mono ?_); rintro e w30 ⟨gq, rfl, hQ, hb⟩; have HB30 := Lib.hid (HB29.out.callee hb); have HQ30 := Lib.hid hQ; have Hz30 := Lib.hid (OwnI.callee Hz29.out hb); clear hQ hb HB29 Hz29)
    | (go_at_call 46; (with_reducible refine (HS6.out _ _ Hz30.out).mono ?_); rintro e w31 ⟨rfl, hb⟩; have HB31 := Lib.hid (HB30.out.callee hb); have HQ31 := Lib.hid (HQ30.out.callee hb); clear hb HB30 HQ30 Hz30)
    | (go_at_call 23; (with_reducible refine (bk_lines HB31.out rfl).mono ?_); rintro e w32 ⟨v32, rfl, hO, hB, hb⟩; obtain ⟨A9, c9, rfl, _⟩ := ownS_form hO; rw [f36.out]; have HB32 := Lib.hid hB; have HQ32 := Lib.hid (HQ31.out.callee hb); clear hO hB hb HB31 HQ31)
    | (go_at_call 25; (with_reducible refine (bk_file HT.out HQ32.out f37.out).mono ?_); rintro e w33 ⟨rfl, hQ, hb⟩; have HE := Lib.hid hQ.below; clear hQ hb)
    | (go_at_call 53; (with_reducible refine (list_same _ _).mono ?_); rintro e wz ⟨rfl, hwz⟩; replace hwz := hwz.symm; subst hwz)
    | (go_at_call 51; (with_reducible refine (numbers_same _ _).mono ?_); rintro e wz ⟨rfl, hwz⟩; replace hwz := hwz.symm; subst hwz))
  go_ret
  exact ⟨rfl, HE.out⟩
end Dr
end Go.Proofs.YtbgakdpbglpfaaaGreatDoor
