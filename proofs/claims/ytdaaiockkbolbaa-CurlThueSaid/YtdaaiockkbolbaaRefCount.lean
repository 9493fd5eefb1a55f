/- The reference's count. -/
import Derived.Test.YtdaaiockkbolbaaRefNext
import Derived.Test.YtdaaiockkbolbaaCount
namespace Go.Proofs.Ytdaaiockkbolbaa
open Go.RowKit
/-- the sum over some letters behind a word -/
def sumL (f : Word → Nat) (x : Word) : Word → Nat
  | [] => 0
  | c :: l => f (x ++ [c]) + sumL f x l
theorem sumL_snoc (f : Word → Nat) (x l : Word) (c : UInt8) : sumL f x (l ++ [c]) = sumL f x l + f (x ++ [c]) := by
  induction l with
  | nil => simp [sumL]
  | cons b l ih => simp only [List.cons_append, sumL, ih]; omega
theorem sumL_le {f : Word → Nat} {x : Word} {K : Nat} (hf : ∀ y, f y ≤ K) (l : Word) : sumL f x l ≤ l.length * K := by
  induction l with
  | nil => simp [sumL]
  | cons b l ih =>
    have := hf (x ++ [b])
    simp only [sumL, List.length_cons, Nat.succ_mul]
    omega
/-- how many clear words are d letters longer -/
def cntR (n : Nat) : Nat → Word → Nat
  | 0, _ => 1
  | d + 1, x => sumL (cntR n d) x (nextP x n)
theorem cntR_le {n : Nat} (hn : n ≤ 4) (d : Nat) : ∀ x, cntR n d x ≤ 4 ^ d := by
  induction d with
  | zero => intro x; simp [cntR]
  | succ d ih =>
    intro x
    have h1 := sumL_le (x := x) ih (nextP x n)
    have h2 := nextP_le x n
    have h3 : (nextP x n).length * 4 ^ d ≤ 4 * 4 ^ d := Nat.mul_le_mul_right _ (by omega)
    simp only [cntR]
    rw [Nat.pow_succ]
    omega
theorem one_of {l : Word} {i j : Nat} {c : UInt8} (h : l[i]? = some c) (hj : i + 1 = j) : (⟨l.toArray⟩ : ByteArray).extract i j = ⟨#[c]⟩ := by
  subst hj
  refine bts_inj ?_
  rw [bts_extract]
  have e : bts ⟨l.toArray⟩ = l := rfl
  rw [e, List.take_add_one, h]
  have hi := (List.getElem?_eq_some_iff.1 h).1
  simp [bts, List.length_take, Nat.min_eq_left (Nat.le_of_lt hi)]
set_option maxRecDepth 100000 in
set_option maxHeartbeats 4000000 in
theorem refCount_in (n : Nat) (hn : n ≤ 4) (L : Nat) (hL : L ≤ 10) (d : Nat) : ∀ (s : ByteArray) (w : World), s.size + d = L →
    Calls Try.prog 66 #[.string s, .int .i64 n, .int .i64 L] w fun e w' => e = .returned (.int .i64 (cntR n d (bts s) : Nat)) ∧ Below w.heap.size w w' := by
  induction d with
  | zero =>
    intro s w hd
    have hi : ((s.size : Int) == L) = true := by simp; omega
    go_enter Try.func66, Try.ntmps66
    go_wp2_with (fail)
    go_ret
    exact ⟨rfl, Below.refl _ _⟩
  | succ d ih =>
    intro s w hd
    have hi : ((s.size : Int) == L) = false := by simp; omega
    obtain ⟨l, hl⟩ : ∃ l, nextP (bts s) n = l := ⟨_, rfl⟩
    have hll : l.length ≤ 4 := by have := nextP_le (bts s) n; rw [hl] at this; omega
    obtain ⟨T, hT⟩ : ∃ T, cntR n (d + 1) (bts s) = T := ⟨_, rfl⟩
    rw [hT]
    have hTH := Lib.hid (show sumL (cntR n d) (bts s) l = T by rw [← hT, cntR, hl])
    have hlH := Lib.hid hl
    have hs10 : s.size ≤ 10 := by omega
    have hsz : (⟨l.toArray⟩ : ByteArray).size = l.length := rfl
    have hbd := Lib.hid (show ∀ i, sumL (cntR n d) (bts s) (l.take i) ≤ 4 * 4 ^ 9 ∧ ∀ x, cntR n d x ≤ 4 ^ 9 from by
      have h9 : (4 : Nat) ^ d ≤ 4 ^ 9 := Nat.pow_le_pow_right (by omega) (by omega)
      have hf : ∀ y, cntR n d y ≤ 4 ^ 9 := fun y => Nat.le_trans (cntR_le hn d y) h9
      exact fun i => ⟨Nat.le_trans (sumL_le hf _) (Nat.mul_le_mul_right _ (by rw [List.length_take]; omega)), hf⟩)
    clear hT hl
    go_enter Try.func66, Try.ntmps66
    go_wp2_with (first
      | (go_at_call 60; refine (refNext_in s (by omega) n hn _).mono ?_; rintro e w1 ⟨rfl, hb1⟩; rw [hlH.out]))
    go_loopw [7, 9] (fun a v wr => ∃ i : Nat, i ≤ l.length ∧ a = .int .i64 (sumL (cntR n d) (bts s) (l.take i) : Nat) ∧ v = .int .i64 i ∧ Below w.heap.size w wr) (fun _ v _ => l.length - (intOf v).toNat)
    case atStart => exact ⟨0, by omega, rfl, rfl, hb1⟩
    case round =>
      obtain ⟨i, hil, rfl, rfl, hbe⟩ := hrel
      obtain ⟨A, hA⟩ : ∃ A, sumL (cntR n d) (bts s) (l.take i) = A := ⟨_, rfl⟩
      have hA9 := (hbd.out i).1
      rw [hA] at hA9 ⊢
      have h49 : (4 : Nat) ^ 9 = 262144 := by decide
      rw [h49] at hA9
      have hAH := Lib.hid hA
      clear hA h49
      by_cases hlt : i < l.length
      · have hlti : (i : Int) < l.length := by omega
        obtain ⟨c, hc⟩ : ∃ c, l[i]? = some c := ⟨_, List.getElem?_eq_getElem hlt⟩
        obtain ⟨j, hj⟩ : ∃ j, i + 1 = j := ⟨_, rfl⟩
        have hji : (i : Int) + 1 = j := by omega
        have hjl : j ≤ l.length := by omega
        have hij : i ≤ j := by omega
        have hone := one_of hc hj
        have hsc : bts (s ++ ⟨#[c]⟩) = bts s ++ [c] := by rw [bts_append]; rfl
        have hszc : (s ++ ⟨#[c]⟩ : ByteArray).size + d = L := by rw [← bts_len, hsc]; simp [bts_len]; omega
        obtain ⟨B, hB⟩ : ∃ B, cntR n d (bts s ++ [c]) = B := ⟨_, rfl⟩
        have hB9 := (hbd.out 0).2 (bts s ++ [c])
        have h49 : (4 : Nat) ^ 9 = 262144 := by decide
        rw [hB, h49] at hB9
        have hN := Lib.hid (show sumL (cntR n d) (bts s) (l.take j) = A + B by rw [← hj, List.take_add_one, hc, Option.toList_some, sumL_snoc, hAH.out, hB])
        have hBH := Lib.hid hB
        clear hB hc h49
        go_wp2_with (first
          | (go_at_call 66; refine (ih _ _ hszc).mono ?_; rintro e w2 ⟨rfl, hb2⟩; rw [hsc, hBH.out]))
        exact ⟨⟨j, hjl, by rw [hN.out]; rfl, rfl, hbe.trans (hb2.mono hbe.size)⟩, by simp only [intOf]; omega⟩
      · have hlti : ¬ (i : Int) < l.length := by omega
        have hfull := Lib.hid (show A = T by rw [← hAH.out, ← hTH.out, List.take_of_length_le (by omega)])
        go_wp2_with (fail)
        go_ret
        exact ⟨by rw [← hfull.out]; rfl, hbe⟩
def countVR (n l : Int) : Int := if (1 ≤ n ∧ n ≤ 4) ∧ (0 ≤ l ∧ l ≤ 10) then (cntR n.toNat l.toNat [] : Nat) else 0
set_option maxRecDepth 100000 in
set_option maxHeartbeats 4000000 in
theorem refCountApi_any (n l : Int) (w : World) : Calls Try.prog 24 #[.int .i64 n, .int .i64 l] w fun e w' => e = .returned (.tuple #[.int .i64 (countVR n l), .int .i64 (countE n l)]) ∧ Below w.heap.size w w' := by
  by_cases h1 : 1 ≤ n ∧ n ≤ 4
  · have hw1 : withinB n 1 4 = true := by simp [withinB, h1]
    by_cases h2 : 0 ≤ l ∧ l ≤ 10
    · have hw2 : withinB l 0 10 = true := by simp [withinB, h2]
      obtain ⟨k, rfl⟩ : ∃ k : Nat, n = k := ⟨n.toNat, by omega⟩
      obtain ⟨M, rfl⟩ : ∃ M : Nat, l = M := ⟨l.toNat, by omega⟩
      have hE : countE (k : Int) (M : Int) = 0 := by rw [countE, if_pos ⟨h1, h2⟩]
      obtain ⟨R, hR⟩ : ∃ R, cntR k M [] = R := ⟨_, rfl⟩
      have hV : countVR (k : Int) (M : Int) = (R : Int) := by rw [countVR, if_pos ⟨h1, h2⟩, ← hR]; rfl
      rw [hE, hV]
      have hRH := Lib.hid (show cntR k M (bts ⟨#[]⟩) = R from hR)
      have hk4 : k ≤ 4 := by omega
      have hM10 : M ≤ 10 := by omega
      clear hE hV hR
      go_enter Try.func24, Try.ntmps24
      go_wp2_with (first
        | (go_at_call 63; refine (in_any _ _ _ _).mono ?_; rintro e w1 ⟨rfl, rfl⟩; first | rw [hw1] | rw [hw2])
        | (go_at_call 66; refine (refCount_in k hk4 M hM10 M ⟨#[]⟩ _ (by show 0 + M = M; omega)).mono ?_; rintro e w2 ⟨rfl, hb2⟩; rw [hRH.out]))
      go_ret2
      exact ⟨rfl, hb2⟩
    · have hw2 : withinB l 0 10 = false := by rw [Bool.eq_false_iff]; intro h; simp [withinB] at h; omega
      have hE : countE n l = 1 := by rw [countE, if_neg (fun h => h2 h.2)]
      have hV : countVR n l = 0 := by rw [countVR, if_neg (fun h => h2 h.2)]
      rw [hE, hV]
      clear hE hV
      go_enter Try.func24, Try.ntmps24
      go_wp2_with (first
        | (go_at_call 63; refine (in_any _ _ _ _).mono ?_; rintro e w1 ⟨rfl, rfl⟩; first | rw [hw1] | rw [hw2]))
      go_ret2
      exact ⟨rfl, Below.refl _ _⟩
  · have hw1 : withinB n 1 4 = false := by rw [Bool.eq_false_iff]; intro h; simp [withinB] at h; omega
    have hE : countE n l = 1 := by rw [countE, if_neg (fun h => h1 h.1)]
    have hV : countVR n l = 0 := by rw [countVR, if_neg (fun h => h1 h.1)]
    rw [hE, hV]
    clear hE hV
    go_enter Try.func24, Try.ntmps24
    go_wp2_with (first
      | (go_at_call 63; refine (in_any _ _ _ _).mono ?_; rintro e w1 ⟨rfl, rfl⟩; rw [hw1]))
    go_ret2
    exact ⟨rfl, Below.refl _ _⟩
end Go.Proofs.Ytdaaiockkbolbaa
