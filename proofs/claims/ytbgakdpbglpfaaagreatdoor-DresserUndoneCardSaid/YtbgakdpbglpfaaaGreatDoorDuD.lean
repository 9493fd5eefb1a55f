/- Two books that are the same are alike: the law's look at them, walked. -/
import Derived.Test.YtbgakdpbglpfaaaGreatDoorDuC
namespace Go.Proofs.YtbgakdpbglpfaaaGreatDoor
open Go.RowKit
namespace Dr
set_option linter.unusedSimpArgs false
/-- two books that are the same, and rows that were asked for -/
structure Al (wb w0 w : World) (ga gb : Nat) (A : Book) (ns : List (Value × List Nat)) (ts : List (Value × List ByteArray)) : Prop where
  a : Bk w0 w ga A
  b : Bk w0 w gb A
  be : Below wb.heap.size wb w
  n : ∀ p ∈ ns, OwnN w p.1 p.2
  t : ∀ p ∈ ts, OwnT w p.1 p.2
section
variable {wb w0 w w' : World} {ga gb : Nat} {A : Book} {ns : List (Value × List Nat)} {ts : List (Value × List ByteArray)}
theorem Al.callee (h : Al wb w0 w ga gb A ns ts) (hb : Below w.heap.size w w') : Al wb w0 w' ga gb A ns ts :=
  ⟨h.a.callee hb, h.b.callee hb, h.be.trans (hb.mono h.be.size), fun p hp => OwnI.callee (h.n p hp) hb, fun p hp => OwnS.callee (h.t p hp) hb⟩
theorem Al.addN (h : Al wb w0 w ga gb A ns ts) {v : Value} {xs : List Nat} (hv : OwnN w v xs) : Al wb w0 w ga gb A ((v, xs) :: ns) ts :=
  ⟨h.a, h.b, h.be, fun p hp => by
    rcases List.mem_cons.1 hp with rfl | hp
    · exact hv
    · exact h.n p hp, h.t⟩
theorem Al.addT (h : Al wb w0 w ga gb A ns ts) {v : Value} {xs : List ByteArray} (hv : OwnT w v xs) : Al wb w0 w ga gb A ns ((v, xs) :: ts) :=
  ⟨h.a, h.b, h.be, h.n, fun p hp => by
    rcases List.mem_cons.1 hp with rfl | hp
    · exact hv
    · exact h.t p hp⟩
theorem Al.clean (h : Al wb w0 w ga gb A ns ts) : Al wb w0 w ga gb A [] [] := ⟨h.a, h.b, h.be, (fun p hp => by cases hp), (fun p hp => by cases hp)⟩
theorem Al.start (h : Al wb w0 w ga gb A ns ts) : Al w w0 w ga gb A [] [] := ⟨h.a, h.b, Below.refl _ _, (fun p hp => by cases hp), (fun p hp => by cases hp)⟩
theorem bk_feathers5 (h : Bk w0 w ga A) (d : ByteArray) {x1 x2 x3 x4 : Nat} {E : Int} (h1 : A.feathers d = ((x1, x2, x3, x4), E)) : Calls Tryz.prog 34 #[.pointer (some ⟨ga, 0, none⟩), .string d] w fun e w' =>
    e = .returned (.tuple #[.int .i64 (x1 : Int), .int .i64 (x2 : Int), .int .i64 (x3 : Int), .int .i64 (x4 : Int), .int .i64 E]) ∧ Below w.heap.size w w' :=
  (bk_feathers h d h1).mono fun _ _ hp => ⟨hp.1, hp.2.2⟩
set_option maxRecDepth 100000 in
set_option maxHeartbeats 4000000 in
theorem alike_books (T : Tabs w0) (ha : Bk w0 w ga A) (hb : Bk w0 w gb A) :
    Calls Tryz.prog 38 #[.pointer (some ⟨ga, 0, none⟩), .pointer (some ⟨gb, 0, none⟩)] w fun e w' => e = .returned (.bool true) ∧ Below w.heap.size w w' := by
  have HT := Lib.hid T
  obtain ⟨rf, hrf⟩ : ∃ q, bstr (fileL A.lines) = q := ⟨_, rfl⟩
  obtain ⟨ll, hll⟩ : ∃ q, A.lines = q := ⟨_, rfl⟩
  obtain ⟨dl, hdl⟩ : ∃ q, A.house.chests.map (·.1) = q := ⟨_, rfl⟩
  have HF := Lib.hid hrf
  have HL := Lib.hid hll
  have HD := Lib.hid hdl
  have hfe : (rf.toList == rf.toList) = true := by rw [str_eq]; exact decide_eq_true rfl
  have hP : Al w w0 w ga gb A [] [] := ⟨ha, hb, Below.refl _ _, (fun p hp => by cases hp), (fun p hp => by cases hp)⟩
  clear hrf hll hdl T ha hb
  go_enter Tryz.func38, Tryz.ntmps38
  go_wp2_with (first
    | (go_at_call 25; (with_reducible refine (bk_file HT.out hP.a HF.out).mono ?_); rintro e w3 ⟨rfl, _, hb3⟩; replace hP := hP.callee hb3; clear hb3)
    | (go_at_call 25; (with_reducible refine (bk_file HT.out hP.b HF.out).mono ?_); rintro e w3 ⟨rfl, _, hb3⟩; replace hP := hP.callee hb3; clear hb3)
    | (go_at_call 23; (with_reducible refine (bk_lines hP.a HL.out).mono ?_); rintro e w3 ⟨v1, rfl, hv, _, hb3⟩; replace hP := (hP.callee hb3).addT hv; clear hb3 hv)
    | (go_at_call 23; (with_reducible refine (bk_lines hP.b HL.out).mono ?_); rintro e w3 ⟨v2, rfl, hv, _, hb3⟩; replace hP := (hP.callee hb3).addT hv; clear hb3 hv)
    | (go_at_call 35; (with_reducible refine (bk_drawers hP.a HD.out).mono ?_); rintro e w3 ⟨v3, rfl, hv, _, hb3⟩; replace hP := (hP.callee hb3).addT hv; clear hb3 hv)
    | (go_at_call 35; (with_reducible refine (bk_drawers hP.b HD.out).mono ?_); rintro e w3 ⟨v4, rfl, hv, _, hb3⟩; replace hP := (hP.callee hb3).addT hv; clear hb3 hv)
    | (go_at_call 22; (with_reducible refine (texts_two (hP.t (v1, ll) (by simp)) (hP.t (v2, ll) (by simp))).mono ?_); rintro e w3 ⟨rfl, hb3⟩; replace hP := hP.callee hb3; clear hb3)
    | (go_at_call 22; (with_reducible refine (texts_two (hP.t (v3, dl) (by simp)) (hP.t (v4, dl) (by simp))).mono ?_); rintro e w3 ⟨rfl, hb3⟩; replace hP := hP.callee hb3; clear hb3)
    | (go_at_call 40; (with_reducible refine (drawers_list _).mono ?_); rintro e w4 ⟨ad4, rfl, hr4, hb4⟩; replace hP := hP.callee hb4; clear hb4))
  have hP0 := Lib.hid hP.be
  go_loopw [66] (fun v wr => ∃ i : Nat, i ≤ 2 ∧ v = .int .i64 i ∧ Al w4 w0 wr ga gb A [] []) (fun v _ => 2 - (intOf v).toNat)
  case atStart => exact ⟨0, Nat.zero_le _, rfl, hP.start⟩
  case round =>
    clear hP
    obtain ⟨i, hi, rfl, hP⟩ := hrel
    by_cases hlt : i < 2
    · have hlti : (i : Int) < 2 := by omega
      have hi0 : (0 : Int) ≤ i := by omega
      obtain ⟨ad', x, he, _, hcx, _⟩ := (hr4.later (Nat.le_refl _) hP.be).at_ hlt
      injection he with he
      subst he
      obtain ⟨⟨xs, Es⟩, hS⟩ : ∃ q, A.ask x [] (·.sizes) = q := ⟨_, rfl⟩
      obtain ⟨⟨xk, Ek⟩, hK⟩ : ∃ q, A.ask x [] (·.stock) = q := ⟨_, rfl⟩
      obtain ⟨⟨xo, Eo⟩, hO⟩ : ∃ q, A.ask x [] (·.out) = q := ⟨_, rfl⟩
      obtain ⟨⟨⟨x1, x2, x3, x4⟩, Ef⟩, hFe⟩ : ∃ q, A.feathers x = q := ⟨_, rfl⟩
      have HS := Lib.hid hS
      have HK := Lib.hid hK
      have HO := Lib.hid hO
      have HX := Lib.hid hFe
      clear hS hK hO hFe
      go_wp2_with (first
        | (go_at_call 28; (with_reducible refine (bk_sizes hP.a x HS.out).mono ?_); rintro e w3 ⟨v1, rfl, hv, _, hb3⟩; replace hP := (hP.callee hb3).addN hv; clear hb3 hv)
        | (go_at_call 28; (with_reducible refine (bk_sizes hP.b x HS.out).mono ?_); rintro e w3 ⟨v2, rfl, hv, _, hb3⟩; replace hP := (hP.callee hb3).addN hv; clear hb3 hv)
        | (go_at_call 29; (with_reducible refine (bk_stock hP.a x HK.out).mono ?_); rintro e w3 ⟨v3, rfl, hv, _, hb3⟩; replace hP := (hP.callee hb3).addN hv; clear hb3 hv)
        | (go_at_call 29; (with_reducible refine (bk_stock hP.b x HK.out).mono ?_); rintro e w3 ⟨v4, rfl, hv, _, hb3⟩; replace hP := (hP.callee hb3).addN hv; clear hb3 hv)
        | (go_at_call 32; (with_reducible refine (bk_out hP.a x HO.out).mono ?_); rintro e w3 ⟨v5, rfl, hv, _, hb3⟩; replace hP := (hP.callee hb3).addT hv; clear hb3 hv)
        | (go_at_call 32; (with_reducible refine (bk_out hP.b x HO.out).mono ?_); rintro e w3 ⟨v6, rfl, hv, _, hb3⟩; replace hP := (hP.callee hb3).addT hv; clear hb3 hv)
        | (go_at_call 46; (with_reducible refine (same_two (hP.n (v1, xs) (by simp)) (hP.n (v2, xs) (by simp))).mono ?_); rintro e w3 ⟨rfl, hb3⟩; replace hP := hP.callee hb3; clear hb3)
        | (go_at_call 46; (with_reducible refine (same_two (hP.n (v3, xk) (by simp)) (hP.n (v4, xk) (by simp))).mono ?_); rintro e w3 ⟨rfl, hb3⟩; replace hP := hP.callee hb3; clear hb3)
        | (go_at_call 22; (with_reducible refine (texts_two (hP.t (v5, xo) (by simp)) (hP.t (v6, xo) (by simp))).mono ?_); rintro e w3 ⟨rfl, hb3⟩; replace hP := hP.callee hb3; clear hb3)
        | (go_at_call 34; (with_reducible refine (bk_feathers5 hP.a x HX.out).mono ?_); rintro e w3 ⟨rfl, hb3⟩; replace hP := hP.callee hb3; clear hb3)
        | (go_at_call 34; (with_reducible refine (bk_feathers5 hP.b x HX.out).mono ?_); rintro e w3 ⟨rfl, hb3⟩; replace hP := hP.callee hb3; clear hb3))
      go_roundw
      case rel => exact ⟨i + 1, by omega, by go_num, hP.clean⟩
      case measure => simp only [intOf]; omega
    · obtain rfl : i = 2 := by omega
      go_wp2_with (go_at_call 52; (with_reducible refine (orders_list _).mono ?_); rintro e w5 ⟨ad5, rfl, hr5, hb5⟩; replace hP := hP.callee hb5; clear hb5)
      have hP1 := Lib.hid (hP0.out.trans (hP.be.mono hP0.out.size))
      go_loopw [181] (fun v wr => ∃ i : Nat, i ≤ 5 ∧ v = .int .i64 i ∧ Al w5 w0 wr ga gb A [] []) (fun v _ => 5 - (intOf v).toNat)
      case atStart => exact ⟨0, Nat.zero_le _, rfl, hP.start⟩
      case round =>
        clear hP
        obtain ⟨i, hi, rfl, hP⟩ := hrel
        by_cases hlt : i < 5
        · have hlti : (i : Int) < 5 := by omega
          have hi0 : (0 : Int) ≤ i := by omega
          obtain ⟨ad', x, he, _, hcx, _⟩ := (hr5.later (Nat.le_refl _) hP.be).at_ hlt
          injection he with he
          subst he
          obtain ⟨⟨xs, Es⟩, hS⟩ : ∃ q, A.filled x = q := ⟨_, rfl⟩
          have HS := Lib.hid hS
          clear hS
          go_wp2_with (first
            | (go_at_call 30; (with_reducible refine (bk_filled hP.a x HS.out).mono ?_); rintro e w3 ⟨v1, rfl, hv, _, hb3⟩; replace hP := (hP.callee hb3).addN hv; clear hb3 hv)
            | (go_at_call 30; (with_reducible refine (bk_filled hP.b x HS.out).mono ?_); rintro e w3 ⟨v2, rfl, hv, _, hb3⟩; replace hP := (hP.callee hb3).addN hv; clear hb3 hv)
            | (go_at_call 46; (with_reducible refine (same_two (hP.n (v1, xs) (by simp)) (hP.n (v2, xs) (by simp))).mono ?_); rintro e w3 ⟨rfl, hb3⟩; replace hP := hP.callee hb3; clear hb3))
          go_roundw
          case rel => exact ⟨i + 1, by omega, by go_num, hP.clean⟩
          case measure => simp only [intOf]; omega
        · obtain rfl : i = 5 := by omega
          go_wp2_with (fail)
          go_ret
          exact ⟨rfl, hP1.out.trans (hP.be.mono hP1.out.size)⟩
end
end Dr
end Go.Proofs.YtbgakdpbglpfaaaGreatDoor
