/- The reference's next. -/
import Derived.Test.YtdaaiockkbolbaaNext
namespace Go.Proofs.Ytdaaiockkbolbaa
open Go.RowKit
/-- of the first k letters, those with which a word is clear -/
def nextP (x : Word) : Nat → Word
  | 0 => []
  | k + 1 => if cleanS (x ++ [(97 + k).toUInt8]) then nextP x k ++ [(97 + k).toUInt8] else nextP x k
theorem nextP_le (x : Word) (k : Nat) : (nextP x k).length ≤ k := by
  induction k with
  | zero => simp [nextP]
  | succ k ih =>
    simp only [nextP]
    split
    · simp; omega
    · omega
theorem abcd_one {i j : Nat} (hi : i < 4) (hj : i + 1 = j) : abcd.extract i j = ⟨#[(97 + i).toUInt8]⟩ := by
  subst hj
  match i, hi with
  | 0, _ => rfl
  | 1, _ => rfl
  | 2, _ => rfl
  | 3, _ => rfl
theorem bts_append (s t : ByteArray) : bts (s ++ t) = bts s ++ bts t := by simp [bts]
theorem mk_append (l : Word) (c : UInt8) : (⟨l.toArray⟩ : ByteArray) ++ ⟨#[c]⟩ = ⟨(l ++ [c]).toArray⟩ := bts_inj (by rw [bts_append]; simp [bts])
set_option maxRecDepth 100000 in
set_option maxHeartbeats 4000000 in
theorem refNext_in (s : ByteArray) (hs : s.size ≤ 1000000) (n : Nat) (hn : n ≤ 4) (w : World) : Calls Try.prog 60 #[.string s, .int .i64 n] w fun e w' => e = .returned (.string ⟨(nextP (bts s) n).toArray⟩) ∧ Below w.heap.size w w' := by
  go_enter Try.func60, Try.ntmps60
  go_wp2_with (fail)
  go_loopw [5, 6] (fun o v wr => ∃ i : Nat, i ≤ n ∧ o = .string ⟨(nextP (bts s) i).toArray⟩ ∧ v = .int .i64 i ∧ Below w.heap.size w wr) (fun _ v _ => n - (intOf v).toNat)
  case atStart => exact ⟨0, by omega, rfl, rfl, Below.refl _ _⟩
  case round =>
    obtain ⟨i, hi, rfl, rfl, hbe⟩ := hrel
    by_cases hlt : i < n
    · have hlti : (i : Int) < n := by omega
      have hi4 : i < 4 := by omega
      obtain ⟨j, hj⟩ : ∃ j, i + 1 = j := ⟨_, rfl⟩
      have hji : (i : Int) + 1 = j := by omega
      have hj4 : (j : Int) ≤ 4 := by omega
      have hij : i ≤ j := by omega
      obtain ⟨l, hl⟩ : ∃ l, nextP (bts s) i = l := ⟨_, rfl⟩
      have hll : l.length ≤ 4 := by have := nextP_le (bts s) i; rw [hl] at this; omega
      have hone := abcd_one hi4 hj
      obtain ⟨c, hc⟩ : ∃ c : UInt8, (97 + i).toUInt8 = c := ⟨_, rfl⟩
      rw [hc] at hone
      have hap := mk_append l c
      have hsc : bts (s ++ ⟨#[c]⟩) = bts s ++ [c] := by rw [bts_append]; rfl
      have hszc : (s ++ ⟨#[c]⟩ : ByteArray).size ≤ 1000000000 := by rw [← bts_len, hsc]; simp [bts_len]; omega
      rw [hl]
      cases hq : cleanS (bts s ++ [c]) with
      | true =>
        have hN := Lib.hid (show nextP (bts s) j = l ++ [c] by rw [← hj, nextP, hc, if_pos hq, hl])
        have hqH := Lib.hid hq
        clear hq hl hc
        go_wp2_with (first
          | (go_at_call 49; refine (refClean_any _ hszc _).mono ?_; rintro e w1 ⟨rfl, hb1⟩; rw [hsc, hqH.out]))
        exact ⟨⟨j, by omega, by rw [hN.out], rfl, hbe.trans (hb1.mono hbe.size)⟩, by simp only [intOf]; omega⟩
      | false =>
        have hN := Lib.hid (show nextP (bts s) j = l by rw [← hj, nextP, hc, if_neg (by rw [hq]; decide), hl])
        have hqH := Lib.hid hq
        clear hq hl hc
        go_wp2_with (first
          | (go_at_call 49; refine (refClean_any _ hszc _).mono ?_; rintro e w1 ⟨rfl, hb1⟩; rw [hsc, hqH.out]))
        exact ⟨⟨j, by omega, by rw [hN.out], rfl, hbe.trans (hb1.mono hbe.size)⟩, by simp only [intOf]; omega⟩
    · have hlti : ¬ (i : Int) < n := by omega
      have hin : i = n := by omega
      subst hin
      go_wp2_with (fail)
      go_ret
      exact ⟨rfl, hbe⟩
/-- what the reference's Next returns -/
def nextVR (x : Word) (n : Int) : Word := if begE x n = 0 then nextP x n.toNat else []
set_option maxRecDepth 100000 in
set_option maxHeartbeats 4000000 in
theorem refNextApi_any (s : ByteArray) (n : Int) (hs : s.size ≤ 1000000) (w : World) : Calls Try.prog 20 #[.string s, .int .i64 n] w fun e w' => e = .returned (.tuple #[.string ⟨(nextVR (bts s) n).toArray⟩, .int .i64 (begE (bts s) n)]) ∧ Below w.heap.size w w' := by
  by_cases hc : begE (bts s) n = 0
  · obtain ⟨h1, h2, h3, h4, h5⟩ := begE_zero hc
    obtain ⟨k, rfl⟩ : ∃ k : Nat, n = k := ⟨n.toNat, by omega⟩
    have hV : nextVR (bts s) (k : Int) = nextP (bts s) k := by rw [nextVR, if_pos hc]; rfl
    rw [hV, hc]
    have hcH := Lib.hid hc
    have hk4 : k ≤ 4 := by omega
    clear hV hc h1 h4 h5
    go_enter Try.func20, Try.ntmps20
    go_wp2_with (first
      | (go_at_call 59; refine (given_any s k _).mono ?_; rintro e w1 ⟨rfl, hb1⟩; rw [hcH.out])
      | (go_at_call 60; refine (refNext_in s hs k hk4 _).mono ?_; rintro e w2 ⟨rfl, hb2⟩))
    go_ret2
    exact ⟨rfl, hb1.trans (hb2.mono hb1.size)⟩
  · have hV : nextVR (bts s) n = [] := by rw [nextVR, if_neg hc]
    rw [hV]
    obtain ⟨z, hz⟩ : ∃ z, begE (bts s) n = z := ⟨_, rfl⟩
    rw [hz] at hc ⊢
    have hzH := Lib.hid hz
    have hz0 : (z != 0) = true := by simp [hc]
    clear hV hz
    go_enter Try.func20, Try.ntmps20
    go_wp2_with (first
      | (go_at_call 59; refine (given_any s n _).mono ?_; rintro e w1 ⟨rfl, hb1⟩; rw [hzH.out]))
    go_ret2
    exact ⟨rfl, hb1⟩
end Go.Proofs.Ytdaaiockkbolbaa
