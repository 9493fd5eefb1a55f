/- The reference's longer. -/
import Derived.Test.YtdaaiockkbolbaaRefCount
namespace Go.Proofs.Ytdaaiockkbolbaa
open Go.RowKit
/-- the first that is found behind some letters -/
def firstL (f : Word → Option Word) (x : Word) : Word → Option Word
  | [] => none
  | c :: l => match f (x ++ [c]) with
    | some y => some y
    | none => firstL f x l
/-- the smallest clear word that is d letters longer -/
def lonR (n : Nat) : Nat → Word → Option Word
  | 0, x => some x
  | d + 1, x => firstL (lonR n d) x (nextP x n)
theorem lonR_len (n : Nat) (d : Nat) : ∀ x y, lonR n d x = some y → y.length = x.length + d := by
  induction d with
  | zero => intro x y h; simp [lonR] at h; subst h; rfl
  | succ d ih =>
    intro x y h
    simp only [lonR] at h
    generalize nextP x n = l at h
    induction l with
    | nil => cases h
    | cons c l il =>
      simp only [firstL] at h
      cases hf : lonR n d (x ++ [c]) with
      | some z =>
        rw [hf] at h
        have := ih _ _ hf
        simp at h this
        subst h
        omega
      | none => rw [hf] at h; exact il h
set_option maxRecDepth 100000 in
set_option maxHeartbeats 4000000 in
theorem refLonger_in (n : Nat) (hn : n ≤ 4) (L : Nat) (hL : L ≤ 1000) (d : Nat) : ∀ (s : ByteArray) (w : World), s.size + d = L →
    Calls Try.prog 64 #[.string s, .int .i64 n, .int .i64 L] w fun e w' => e = .returned (.string ⟨((lonR n d (bts s)).getD []).toArray⟩) ∧ Below w.heap.size w w' := by
  induction d with
  | zero =>
    intro s w hd
    have hi : ((s.size : Int) == L) = true := by simp; omega
    have hs : (⟨(bts s).toArray⟩ : ByteArray) = s := bts_inj rfl
    go_enter Try.func64, Try.ntmps64
    go_wp2_with (fail)
    go_ret
    exact ⟨by show _ = Ending.returned (Value.string ⟨(bts s).toArray⟩); rw [hs]; rfl, Below.refl _ _⟩
  | succ d ih =>
    intro s w hd
    have hi : ((s.size : Int) == L) = false := by simp; omega
    obtain ⟨l, hl⟩ : ∃ l, nextP (bts s) n = l := ⟨_, rfl⟩
    have hll : l.length ≤ 4 := by have := nextP_le (bts s) n; rw [hl] at this; omega
    obtain ⟨T, hT⟩ : ∃ T, lonR n (d + 1) (bts s) = T := ⟨_, rfl⟩
    rw [hT]
    have hTH := Lib.hid (show firstL (lonR n d) (bts s) l = T by rw [← hT, lonR, hl])
    have hlH := Lib.hid hl
    have hs10 : s.size ≤ 1000 := by omega
    have hL0 : ((0 : Int) == L) = false := by simp; omega
    clear hT hl
    go_enter Try.func64, Try.ntmps64
    go_wp2_with (first
      | (go_at_call 60; refine (refNext_in s (by omega) n hn _).mono ?_; rintro e w1 ⟨rfl, hb1⟩; rw [hlH.out]))
    go_loopw [8] (fun v wr => ∃ i : Nat, i ≤ l.length ∧ v = .int .i64 i ∧ Hid (firstL (lonR n d) (bts s) (l.drop i) = T) ∧ Below w.heap.size w wr) (fun v _ => l.length - (intOf v).toNat)
    case atStart => exact ⟨0, by omega, rfl, hTH, hb1⟩
    case round =>
      obtain ⟨i, hil, rfl, hF, hbe⟩ := hrel
      by_cases hlt : i < l.length
      · have hlti : (i : Int) < l.length := by omega
        obtain ⟨c, hc⟩ : ∃ c, l[i]? = some c := ⟨_, List.getElem?_eq_getElem hlt⟩
        obtain ⟨j, hj⟩ : ∃ j, i + 1 = j := ⟨_, rfl⟩
        have hji : (i : Int) + 1 = j := by omega
        have hjl : j ≤ l.length := by omega
        have hij : i ≤ j := by omega
        have hone := one_of hc hj
        have hdr : l.drop i = c :: l.drop j := by
          rw [List.drop_eq_getElem_cons hlt, hj]
          rw [List.getElem?_eq_getElem hlt] at hc
          simp only [Option.some.injEq] at hc
          rw [hc]
        have hsc : bts (s ++ ⟨#[c]⟩) = bts s ++ [c] := by rw [bts_append]; rfl
        have hszc : (s ++ ⟨#[c]⟩ : ByteArray).size + d = L := by rw [← bts_len, hsc]; simp [bts_len]; omega
        cases hB : lonR n d (bts s ++ [c]) with
        | none =>
          have hN := Lib.hid (show firstL (lonR n d) (bts s) (l.drop j) = T by rw [← hF.out, hdr, firstL, hB])
          have hBH := Lib.hid hB
          clear hB hc hdr
          go_wp2_with (first
            | (go_at_call 64; refine (ih _ _ hszc).mono ?_; rintro e w2 ⟨rfl, hb2⟩; rw [hsc, hBH.out, Option.getD_none]))
          exact ⟨⟨j, hjl, rfl, hN, hbe.trans (hb2.mono hbe.size)⟩, by simp only [intOf]; omega⟩
        | some y =>
          have hN := Lib.hid (show some y = T by rw [← hF.out, hdr, firstL, hB])
          have hyl := lonR_len n d _ _ hB
          have hyL : ((y.length : Int) == L) = true := by simp at hyl ⊢; rw [bts_len] at hyl; omega
          have hBH := Lib.hid hB
          clear hB hc hdr hyl
          go_wp2_with (first
            | (go_at_call 64; refine (ih _ _ hszc).mono ?_; rintro e w2 ⟨rfl, hb2⟩; rw [hsc, hBH.out, Option.getD_some]))
          go_ret
          exact ⟨by rw [← hN.out]; rfl, hbe.trans (hb2.mono hbe.size)⟩
      · have hlti : ¬ (i : Int) < l.length := by omega
        have hfull := Lib.hid (show none = T by rw [← hF.out, List.drop_eq_nil_of_le (by omega)]; rfl)
        go_wp2_with (fail)
        go_ret
        exact ⟨by rw [← hfull.out]; rfl, hbe⟩
def longER (x : Word) (n l : Int) : Int := if begE x n ≠ 0 then begE x n else if ¬ ((x.length : Int) ≤ l ∧ l ≤ 40) then 1 else if (lonR n.toNat (l - x.length).toNat x).isSome then 0 else 12
def longVR (x : Word) (n l : Int) : Word := if begE x n ≠ 0 then [] else if ¬ ((x.length : Int) ≤ l ∧ l ≤ 40) then [] else (lonR n.toNat (l - x.length).toNat x).getD []
set_option maxRecDepth 100000 in
set_option maxHeartbeats 4000000 in
theorem refLongerApi_any (s : ByteArray) (n l : Int) (w : World) : Calls Try.prog 22 #[.string s, .int .i64 n, .int .i64 l] w fun e w' => e = .returned (.tuple #[.string ⟨(longVR (bts s) n l).toArray⟩, .int .i64 (longER (bts s) n l)]) ∧ Below w.heap.size w w' := by
  by_cases hc : begE (bts s) n = 0
  · obtain ⟨h1, h2, h3, h4, h5⟩ := begE_zero hc
    obtain ⟨k, rfl⟩ : ∃ k : Nat, n = k := ⟨n.toNat, by omega⟩
    have hcH := Lib.hid hc
    have hk4 : k ≤ 4 := by omega
    by_cases hr : (s.size : Int) ≤ l ∧ l ≤ 40
    · obtain ⟨L, rfl⟩ : ∃ L : Nat, l = L := ⟨l.toNat, by omega⟩
      obtain ⟨m, hm⟩ : ∃ m : Nat, (L : Int) - s.size = m := ⟨L - s.size, by omega⟩
      obtain ⟨r, hrr⟩ : ∃ r, lonR k m (bts s) = r := ⟨_, rfl⟩
      have hV : longVR (bts s) (k : Int) (L : Int) = r.getD [] := by rw [longVR, if_neg (by simp [hc]), if_neg (by rw [bts_len]; exact fun h => h hr), bts_len, hm, ← hrr]; rfl
      have hE : longER (bts s) (k : Int) (L : Int) = if r.isSome then 0 else 12 := by rw [longER, if_neg (by simp [hc]), if_neg (by rw [bts_len]; exact fun h => h hr), bts_len, hm, ← hrr]; rfl
      rw [hV, hE]
      have hrH := Lib.hid hrr
      have hw2 : withinB (L : Int) s.size 40 = true := by simp [withinB, hr]
      have hL40 : L ≤ 1000 := by omega
      have hmL : s.size + m = L := by omega
      cases r with
      | none =>
        have hL0 : ((0 : Int) != L) = true := by
          have : m ≠ 0 := fun h => by subst h; simp [lonR] at hrr
          simp; omega
        clear hV hE hrr hc h1 h4 h5
        go_enter Try.func22, Try.ntmps22
        go_wp2_with (first
          | (go_at_call 59; refine (given_any s k _).mono ?_; rintro e w1 ⟨rfl, hb1⟩; rw [hcH.out])
          | (go_at_call 63; refine (in_any _ _ _ _).mono ?_; rintro e wx ⟨rfl, rfl⟩; rw [hw2])
          | (go_at_call 64; refine (refLonger_in k hk4 L hL40 m s _ hmL).mono ?_; rintro e w2 ⟨rfl, hb2⟩; rw [hrH.out, Option.getD_none]))
        go_ret2
        exact ⟨rfl, hb1.trans (hb2.mono hb1.size)⟩
      | some y =>
        have hyl := lonR_len k m _ _ hrr
        have hyL : ((y.length : Int) != L) = false := by rw [bts_len] at hyl; simp; omega
        clear hV hE hrr hc h1 h4 h5 hyl
        go_enter Try.func22, Try.ntmps22
        go_wp2_with (first
          | (go_at_call 59; refine (given_any s k _).mono ?_; rintro e w1 ⟨rfl, hb1⟩; rw [hcH.out])
          | (go_at_call 63; refine (in_any _ _ _ _).mono ?_; rintro e wx ⟨rfl, rfl⟩; rw [hw2])
          | (go_at_call 64; refine (refLonger_in k hk4 L hL40 m s _ hmL).mono ?_; rintro e w2 ⟨rfl, hb2⟩; rw [hrH.out, Option.getD_some]))
        go_ret2
        exact ⟨rfl, hb1.trans (hb2.mono hb1.size)⟩
    · have hV : longVR (bts s) (k : Int) l = [] := by rw [longVR, if_neg (by simp [hc]), if_pos (by rw [bts_len]; exact hr)]
      have hE : longER (bts s) (k : Int) l = 1 := by rw [longER, if_neg (by simp [hc]), if_pos (by rw [bts_len]; exact hr)]
      rw [hV, hE]
      have hw2 : withinB l s.size 40 = false := by rw [Bool.eq_false_iff]; intro h; simp [withinB] at h; omega
      clear hV hE hc h1 h4 h5
      go_enter Try.func22, Try.ntmps22
      go_wp2_with (first
        | (go_at_call 59; refine (given_any s k _).mono ?_; rintro e w1 ⟨rfl, hb1⟩; rw [hcH.out])
        | (go_at_call 63; refine (in_any _ _ _ _).mono ?_; rintro e wx ⟨rfl, rfl⟩; rw [hw2]))
      go_ret2
      exact ⟨rfl, hb1⟩
  · have hV : longVR (bts s) n l = [] := by rw [longVR, if_pos hc]
    have hE : longER (bts s) n l = begE (bts s) n := by rw [longER, if_pos hc]
    rw [hV, hE]
    obtain ⟨z, hz⟩ : ∃ z, begE (bts s) n = z := ⟨_, rfl⟩
    rw [hz] at hc ⊢
    have hzH := Lib.hid hz
    have hz0 : (z != 0) = true := by simp [hc]
    have hz1 : (z == 0) = false := by simp [hc]
    clear hV hE hz
    go_enter Try.func22, Try.ntmps22
    go_wp2_with (first
      | (go_at_call 59; refine (given_any s n _).mono ?_; rintro e w1 ⟨rfl, hb1⟩; rw [hzH.out]))
    go_ret2
    exact ⟨rfl, hb1⟩
end Go.Proofs.Ytdaaiockkbolbaa
