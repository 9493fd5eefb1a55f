/- branch's from: all knots that can be reached from one. -/
import Derived.Test.YthbkfhhnhiplkaaDoorBrC
namespace Go.Proofs.YthbkfhhnhiplkaaDoor
open Go.RowKit
namespace Br
open Bu (natI natI_at)
/-- the knots of a that are not in b -/
def dropB (a b : Nat) : Nat := a ^^^ (a &&& b)
theorem andNot_nat (a b : Nat) (ha : a < 65536) (hb : b < 65536) : a &&& (65535 - b) = dropB a b := by
  apply Nat.eq_of_testBit_eq
  intro i
  have e : 65535 - b = 2 ^ 16 - (b + 1) := by omega
  unfold dropB
  rw [Nat.testBit_and, Nat.testBit_xor, Nat.testBit_and, e, Nat.testBit_two_pow_sub_succ (by omega)]
  by_cases hi : i < 16
  · rw [decide_eq_true hi]
    cases a.testBit i <;> cases b.testBit i <;> rfl
  · have h1 : a.testBit i = false := Nat.testBit_lt_two_pow (Nat.lt_of_lt_of_le ha (Nat.pow_le_pow_right (n := 2) (by omega) (show 16 ≤ i by omega)))
    rw [h1]
    simp
theorem u16_andNot (a b : Nat) (ha : a < 65536) (hb : b < 65536) : bits .andNot .u16 (a : Int) (b : Int) = ((dropB a b : Nat) : Int) := by
  have hx : a &&& (65535 - b) < 2 ^ 16 := Nat.and_lt_two_pow _ (by omega)
  show IntKind.u16.wrap ((BitVec.ofInt 16 (a : Int) &&& ~~~(BitVec.ofInt 16 (b : Int))).toNat : Int) = _
  rw [BitVec.toNat_and, BitVec.toNat_not, ofInt_u16 a ha, ofInt_u16 b hb, ← andNot_nat a b ha hb]
  exact wrap_u16 _ (by omega)
theorem drop_lt {a b m : Nat} (ha : a < 2 ^ m) : dropB a b < 2 ^ m := Nat.xor_lt_two_pow ha (Nat.lt_of_le_of_lt Nat.and_le_left ha)
theorem drop_grow {a b : Nat} (h : dropB a b ≠ 0) : b < b ||| a := by
  have h1 : b ≤ b ||| a := Nat.left_le_or
  rcases Nat.lt_or_ge b (b ||| a) with h2 | h2
  · exact h2
  · exfalso
    apply h
    have h3 : b ||| a = b := by omega
    apply Nat.eq_of_testBit_eq
    intro i
    have h4 := congrArg (fun x => x.testBit i) h3
    simp only [Nat.testBit_or] at h4
    unfold dropB
    rw [Nat.testBit_xor, Nat.testBit_and, Nat.zero_testBit]
    revert h4
    cases a.testBit i <;> cases b.testBit i <;> simp
/-- all that are tied to some -/
def nextF (ws : List Nat) : List Nat → Nat → Nat
  | [], y => y
  | a :: l, y => nextF ws l (y ||| ws.getD a 0)
def nextW (ws : List Nat) (more : Nat) : Nat := nextF ws (knotsL more) 0
def fromF (ws : List Nat) : Nat → Nat → Nat → Nat
  | 0, all, _ => all
  | u + 1, all, more => if more = 0 then all else fromF ws u (all ||| nextW ws more) (dropB (nextW ws more) all)
theorem from_done (ws : List Nat) (u all : Nat) : fromF ws u all 0 = all := by
  cases u with
  | zero => rfl
  | succ u => rw [fromF, if_pos rfl]
def fromW (ws : List Nat) (k : Nat) : Nat := fromF ws 512 (2 ^ k) (2 ^ k)
theorem knot_lt {s k m : Nat} (hs : s < 2 ^ m) (hk : k ∈ knotsL s) : k < m ∧ k < 9 := by
  unfold knotsL at hk
  rw [List.mem_filter, List.mem_range] at hk
  refine ⟨?_, hk.1⟩
  rcases Nat.lt_or_ge k m with h | h
  · exact h
  · have := Nat.testBit_lt_two_pow (Nat.lt_of_lt_of_le hs (Nat.pow_le_pow_right (n := 2) (by omega) h))
    rw [this] at hk
    cases hk.2
theorem nextF_at {ws l : List Nat} {i a : Nat} (h : l[i]? = some a) (y : Nat) : nextF ws (l.drop i) y = nextF ws (l.drop (i + 1)) (y ||| ws.getD a 0) := by
  obtain ⟨hj, he⟩ := List.getElem?_eq_some_iff.1 h
  rw [List.drop_eq_getElem_cons hj, he, nextF]
set_option maxRecDepth 100000 in
set_option maxHeartbeats 2000000 in
theorem from_ok (gw n c k : Nat) (ws : List Nat) (hl : ws.length = n) (hn : n ≤ 9) (hk : k < n) (hws : ∀ x ∈ ws, x < 2 ^ n) (w : World) (hW : Blk w gw 89 (uArr ws)) :
    Calls Tryd.prog 73 #[.slice (some ⟨gw, 0, none⟩) n c, .int .i64 (k : Int)] w fun e w' => e = .returned (.int .u16 (fromW ws k : Nat)) ∧ Below w.heap.size w w' := by
  have hp : 2 ^ n ≤ 2 ^ 9 := Nat.pow_le_pow_right (by omega) hn
  have h512 : (2 : Nat) ^ 9 = 512 := by decide
  obtain ⟨M, hM⟩ : ∃ M, 2 ^ n = M := ⟨_, rfl⟩
  have hk0 : 2 ^ k < 2 ^ n := Nat.pow_lt_pow_right (by omega) hk
  obtain ⟨K, hK⟩ : ∃ K, 2 ^ k = K := ⟨_, rfl⟩
  have hKi : Value.int .u16 (IntKind.u16.wrap (2 ^ k)) = Value.int .u16 (K : Int) := by
    rw [show (2 : Int) ^ k = ((2 ^ k : Nat) : Int) by simp, hK, wrap_u16 _ (by omega)]
  have hMH := Lib.hid hM
  obtain ⟨R, hR⟩ : ∃ R, fromW ws k = R := ⟨_, rfl⟩
  rw [hR]
  have hR0 := Lib.hid (show fromF ws 512 K K = R by rw [← hR, ← hK]; rfl)
  have hwsH := Lib.hid hws
  have hWH := Lib.hid (fun w' (hb : Below w.heap.size w w') => hW.below hb hW.lt)
  have hK1 : 1 ≤ K := by rw [← hK]; exact Nat.one_le_two_pow
  have hKM : K < M := by rw [← hK, ← hM]; exact hk0
  have hM5 : M ≤ 512 := by rw [← hM, ← h512]; exact hp
  have hki : (k : Int) < 9 := by omega
  have hKiH := Lib.hid hKi
  have hKMH := Lib.hid (And.intro hK1 hKM)
  clear hp h512 hM hk0 hK hR hws hKi hK1 hKM
  go_enter Tryd.func73, Tryd.ntmps73
  go_wp2_with (fail)
  go_loopw [5, 6] (fun a m wr => ∃ u all more : Nat, a = .int .u16 all ∧ m = .int .u16 more ∧ all < M ∧ more < M ∧ (more = 0 ∨ 512 ≤ all + u) ∧ Hid (fromF ws u all more = R) ∧ Below w.heap.size w wr) (fun a m _ => 2 * (512 - (intOf a).toNat) + min 1 (intOf m).toNat)
  case atStart =>
   have h1 := hKMH.out
   exact ⟨512, K, K, hKiH.out, hKiH.out, h1.2, h1.2, by omega, hR0, Below.refl _ _⟩
  case round =>
    clear hR0
    obtain ⟨u, all, more, rfl, rfl, hall, hmore, hu, hE, hb⟩ := hrel
    obtain ⟨wa, rfl⟩ : ∃ x, x = wr := ⟨wr, rfl⟩
    by_cases hm0 : more = 0
    · have hmb : ((more : Int) != 0) = false := by simp [hm0]
      have hRe : all = R := by rw [← hE.out, hm0, from_done]
      subst hRe
      clear hm0
      go_wp2_with (fail)
      go_ret
      exact ⟨rfl, hb⟩
    · have hmb : ((more : Int) != 0) = true := by simp; omega
      obtain ⟨u1, rfl⟩ : ∃ u1, u = u1 + 1 := ⟨u - 1, by omega⟩
      have cl := Lib.hid (fun w' => list_any more (by omega) w')
      have hkn := Lib.hid (fun k (h : k ∈ knotsL more) => knot_lt (m := n) (by rw [hMH.out]; exact hmore) h)
      obtain ⟨NX, hNX⟩ : ∃ x, nextW ws more = x := ⟨_, rfl⟩
      have hE1 := hE.out
      rw [fromF, if_neg hm0, hNX] at hE1
      have hE1H := Lib.hid hE1
      have hNX0 : nextF ws ((knotsL more).drop 0) 0 = NX := by rw [List.drop_zero]; exact hNX
      obtain ⟨L, hL⟩ : ∃ L, knotsL more = L := ⟨_, rfl⟩
      rw [hL] at cl hkn hNX0
      have hNXH := Lib.hid hNX0
      have hLl : L.length ≤ 9 := by
        rw [← hL]
        unfold knotsL
        exact Nat.le_trans (List.length_filter_le _ _) (by simp)
      have hmneH := Lib.hid hm0
      clear hE hE1 hNX hNX0 hL hm0
      go_wp2_with (first
        | (go_at_call 48; (with_reducible refine (cl.out _).mono ?_); rintro e w2 ⟨⟨v2, rfl, ho2⟩, hb2⟩
           obtain ⟨A, cp, hv2, hr2⟩ := ho2.reads
           rw [show (natI L).length = L.length by simp [natI]] at hv2 hr2
           subst hv2
           have hb3 := hb.trans (hb2.mono hb.size)))
      obtain ⟨q, hq⟩ : ∃ q, L.length = q := ⟨_, rfl⟩
      rw [hq] at hr2 hLl ⊢
      go_loopw [7, 18] (fun y v wr => ∃ i z : Nat, i ≤ q ∧ v = .int .i64 i ∧ y = .int .u16 z ∧ z < M ∧ Hid (nextF ws (L.drop i) z = NX) ∧ w2 = wr) (fun _ v _ => q - (intOf v).toNat)
      case atStart => exact ⟨0, 0, by omega, rfl, rfl, by omega, hNXH, rfl⟩
      case round =>
        clear hNXH
        obtain ⟨i, z, hi, rfl, rfl, hz, hN, hw⟩ := hrel
        subst hw
        by_cases hlt : i < q
        · have hlti : (i : Int) < q := by omega
          obtain ⟨ad, z1, rfl, _, hcell, hz1⟩ := hr2.at_ hlt
          obtain ⟨a, ha, rfl⟩ := natI_at hz1.out
          have hak := hkn.out a (List.mem_of_getElem? ha)
          have hW2 := hWH.out w2 hb3
          obtain ⟨x, hx⟩ : ∃ x, ws.getD a 0 = x := ⟨_, rfl⟩
          have hcw : w2.cell? ⟨gw, a, none⟩ = some (.int .u16 (x : Int)) := by rw [hW2.cell, uArr_at, getD_at (by omega), hx]; rfl
          have hxM : x < M := by rw [← hMH.out, ← hx]; exact hwsH.out _ (List.mem_of_getElem? (getD_at (by omega)))
          have hor := u16_or z x (by omega) (by omega)
          have hN2 := hN.out
          rw [nextF_at ha, hx] at hN2
          have hN3 := Lib.hid hN2
          have hzx : z ||| x < M := by rw [← hMH.out] at hz hxM ⊢; exact Nat.or_lt_two_pow hz hxM
          obtain ⟨o, ho⟩ : ∃ o, z ||| x = o := ⟨_, rfl⟩
          rw [ho] at hor hN3 hzx
          have hai : (a : Int) < n := by omega
          have ha0 : (0 : Int) ≤ a := by omega
          clear hN2 hx ho hz1 ha
          go_wp2_with (fail)
          go_roundw
          case rel => exact ⟨i + 1, o, by omega, by go_num, rfl, hzx, hN3, by first | rfl | trivial⟩
          case measure => simp only [intOf]; omega
        · have hlti : ¬ (i : Int) < q := by omega
          have hzN : z = NX := by
            have h1 := hN.out
            rwa [List.drop_of_length_le (by omega), nextF] at h1
          subst hzN
          have han := u16_andNot z all (by omega) (by omega)
          have hor := u16_or all z (by omega) (by omega)
          have hgr := drop_grow (a := z) (b := all)
          have hd : dropB z all < M := by rw [← hMH.out] at hz ⊢; exact drop_lt hz
          have ho : all ||| z < M := by rw [← hMH.out] at hz hall ⊢; exact Nat.or_lt_two_pow hall hz
          have hle : all ≤ all ||| z := Nat.left_le_or
          obtain ⟨d, hde⟩ : ∃ d, dropB z all = d := ⟨_, rfl⟩
          obtain ⟨o, hoe⟩ : ∃ o, all ||| z = o := ⟨_, rfl⟩
          have hE2 := hE1H.out
          rw [hde, hoe] at hE2
          have hE3 := Lib.hid hE2
          rw [hde, hoe] at hgr
          rw [hde] at han hd
          rw [hoe] at hor ho hle
          have hgrH := Lib.hid hgr
          clear hE2 hde hoe hgr hN
          go_wp2_with (fail)
          go_roundw
          case rel => exact ⟨u1, o, d, rfl, rfl, ho, hd, by
            rcases Nat.eq_zero_or_pos d with h | h
            · exact Or.inl h
            · have := hgrH.out (by omega)
              have := hmneH.out
              omega, hE3, hb3⟩
          case measure =>
            simp only [intOf]
            have hm1 := hmneH.out
            rcases Nat.eq_zero_or_pos d with h | h
            · omega
            · have := hgrH.out (by omega)
              omega
end Br
end Go.Proofs.YthbkfhhnhiplkaaDoor
