/- Longer. -/
import Derived.Test.YtdaaiockkbolbaaNext
namespace Go.Proofs.Ytdaaiockkbolbaa
open Go.RowKit
/-- what Longer finds: m letters more -/
def longR (x : Word) (n m : Nat) : Option Word := (runW stepL n m none x).2
def longE (x : Word) (n l : Int) : Int := if begE x n ≠ 0 then begE x n else if ¬ ((x.length : Int) ≤ l ∧ l ≤ 40) then 1 else if (longR x n.toNat (l - x.length).toNat).isSome then 0 else 12
def longV (x : Word) (n l : Int) : Word := if begE x n ≠ 0 then [] else if ¬ ((x.length : Int) ≤ l ∧ l ≤ 40) then [] else (longR x n.toNat (l - x.length).toNat).getD []
theorem out_go (r : Option Word) : outL r = .string ⟨(r.getD []).toArray⟩ := by cases r <;> rfl
theorem err_go (r : Option Word) : errL r = .int .i64 (if r.isSome then 0 else 12) := by cases r <;> rfl
theorem longer_begin (w : World) (s : ByteArray) (hs : s.size ≤ 1000000) : ∃ v w2, (convert 9 55 (.string s)).run Try.prog ((w.alloc (.cells #[.int .i64 12] 23 (0, 0))).alloc (.cells #[.string ⟨#[]⟩] 9 (0, 0))) = .ok v w2 ∧
    Row8 w2 v (some (w.heap.size + 2)) (bts s) ∧ InL (w.heap.size + 1) w.heap.size none w2 ∧ Below w.heap.size w w2 ∧ w.heap.size + 2 ≤ w2.heap.size := by
  have q1 := Blk.new w 23 #[.int .i64 12]
  have b1 := (Below.refl w.heap.size w).alloc (Nat.le_refl _) (.cells #[.int .i64 12] 23 (0, 0))
  have s1 : (w.alloc (.cells #[.int .i64 12] 23 (0, 0))).heap.size = w.heap.size + 1 := by simp
  generalize w.alloc (.cells #[.int .i64 12] 23 (0, 0)) = w1 at q1 b1 s1 ⊢
  have q2 := q1.alloc (.cells #[.string ⟨#[]⟩] 9 (0, 0))
  have p2 := Blk.new w1 9 #[.string ⟨#[]⟩]
  have b2 := (Below.refl w1.heap.size w1).alloc (Nat.le_refl _) (.cells #[.string ⟨#[]⟩] 9 (0, 0))
  have s2 : (w1.alloc (.cells #[.string ⟨#[]⟩] 9 (0, 0))).heap.size = w1.heap.size + 1 := by simp
  generalize w1.alloc (.cells #[.string ⟨#[]⟩] 9 (0, 0)) = w2 at q2 p2 b2 s2 ⊢
  obtain ⟨v, w3, hcv, hrow, hb⟩ := bytes_conv w2 s hs
  rw [s2, s1] at hrow
  rw [s1] at p2
  have := hb.size
  exact ⟨v, w3, hcv, hrow, ⟨by omega, p2.callee hb, q2.callee hb⟩, b1.trans ((b2.mono (by omega)).trans (hb.mono (by omega))), by omega⟩
set_option maxRecDepth 100000 in
set_option maxHeartbeats 4000000 in
theorem Longer_any (s : ByteArray) (n l : Int) (w : World) : Calls Try.prog 21 #[.string s, .int .i64 n, .int .i64 l] w fun e w' => e = .returned (.tuple #[.string ⟨(longV (bts s) n l).toArray⟩, .int .i64 (longE (bts s) n l)]) ∧ Below w.heap.size w w' := by
  by_cases hc : begE (bts s) n = 0
  · obtain ⟨h1, h2, h3, h4, h5⟩ := begE_zero hc
    obtain ⟨hsz, _⟩ := chkW_zero h1
    rw [bts_len] at hsz
    obtain ⟨k, rfl⟩ : ∃ k : Nat, n = k := ⟨n.toNat, by omega⟩
    have hcH := Lib.hid hc
    have hl := Lib.hid h4
    have hk4 : k ≤ 4 := by omega
    obtain ⟨z, hz⟩ : ∃ z, s.size = z := ⟨_, rfl⟩
    have hzH := Lib.hid hz
    by_cases hr : (z : Int) ≤ l ∧ l ≤ 40
    · obtain ⟨L, rfl⟩ : ∃ L : Nat, l = L := ⟨l.toNat, by omega⟩
      obtain ⟨m, hm⟩ : ∃ m : Nat, (L : Int) - z = m := ⟨L - z, by omega⟩
      obtain ⟨r, hrr⟩ : ∃ r, longR (bts s) k m = r := ⟨_, rfl⟩
      have hV : longV (bts s) (k : Int) (L : Int) = r.getD [] := by rw [longV, if_neg (by simp [hc]), if_neg (by rw [bts_len, hz]; exact fun h => h hr), bts_len, hz, hm, ← hrr]; rfl
      have hE : longE (bts s) (k : Int) (L : Int) = if r.isSome then 0 else 12 := by rw [longE, if_neg (by simp [hc]), if_neg (by rw [bts_len, hz]; exact fun h => h hr), bts_len, hz, hm, ← hrr]; rfl
      rw [hV, hE, ← out_go, ← err_go]
      have hrH := Lib.hid (show (runW stepL k m none (bts s)).2 = r from hrr)
      have hw2 : withinB (L : Int) z 40 = true := by simp [withinB, hr]
      obtain ⟨ov, hov⟩ : ∃ ov, outL r = ov := ⟨_, rfl⟩
      obtain ⟨ev, hev⟩ : ∃ ev, errL r = ev := ⟨_, rfl⟩
      rw [hov, hev]
      have hovH := Lib.hid hov
      have hevH := Lib.hid hev
      have hL40 : L ≤ 40 := by omega
      have hmL : z + m = L := by omega
      have hz600 : z ≤ 600 := by omega
      clear hV hE hrr hc h1 h4 h5 hov hev hsz
      go_enter Try.func21, Try.ntmps21
      go_wp2_with (first
        | (go_at_call 54; refine (begun_any s k _).mono ?_; rintro e w1 ⟨rfl, hb1⟩; rw [hcH.out]
           obtain ⟨v, w2, hcv, hrow, hI2, hb2, hs2⟩ := longer_begin w1 s (by rw [hzH.out]; omega))
        | (go_at_call 61; refine (within_b _ _ _ _).mono ?_; rintro e wx ⟨rfl, rfl⟩; rw [hw2])
        | (go_at_call 55
           refine (walk_any (longerEach (w1.heap.size + 1) w1.heap.size k L (4 ^ m)) hk4 (by omega) m (fun i => i = w1.heap.size + 1 ∨ i = w1.heap.size) none w2 v _ (bts s) (by show 0 + 4 ^ m ≤ 4 ^ m; omega) (by rw [bts_len, hzH.out]; omega) hl.out ⟨hI2, fun i => Iff.rfl⟩ hrow (fun g hg e => by simp at hg; omega)).mono ?_
           rintro e w3 ⟨O3, rfl, hI3, hr3, hF3, hO3⟩
           rw [hrH.out] at hI3
           have hb3 := hb2.trans (hF3.below fun i hi => ⟨by omega, fun h => h.elim (fun e => by omega) (fun e => by simp at e; omega)⟩)
           have c3 : w3.cell? ⟨w1.heap.size + 1, 0, none⟩ = some ov := by (rw [← hovH.out]; exact hI3.1.2.1.cell 0)
           have d3 : w3.cell? ⟨w1.heap.size, 0, none⟩ = some ev := by (rw [← hevH.out]; exact hI3.1.2.2.cell 0)))
      go_quiet (fail)
      go_wp2_with (fail)
      go_ret2
      exact ⟨rfl, below_drewN (hb1.trans (hb3.mono hb1.size)) _⟩
    · have hV : longV (bts s) (k : Int) l = [] := by rw [longV, if_neg (by simp [hc]), if_pos (by rw [bts_len, hz]; exact hr)]
      have hE : longE (bts s) (k : Int) l = 1 := by rw [longE, if_neg (by simp [hc]), if_pos (by rw [bts_len, hz]; exact hr)]
      rw [hV, hE]
      have hw2 : withinB l z 40 = false := by rw [Bool.eq_false_iff]; intro h; simp [withinB] at h; omega
      clear hV hE hc h1 h4 h5
      go_enter Try.func21, Try.ntmps21
      go_wp2_with (first
        | (go_at_call 54; refine (begun_any s k _).mono ?_; rintro e w1 ⟨rfl, hb1⟩; rw [hcH.out]
           have hbA := (Below.refl w1.heap.size w1).alloc (Nat.le_refl _) (.cells #[.int .i64 0] 23 (0, 0)))
        | (go_at_call 61; refine (within_b _ _ _ _).mono ?_; rintro e wx ⟨rfl, rfl⟩; rw [hw2]))
      go_ret2
      exact ⟨rfl, hb1.trans (hbA.mono hb1.size)⟩
  · have hV : longV (bts s) n l = [] := by rw [longV, if_pos hc]
    have hE : longE (bts s) n l = begE (bts s) n := by rw [longE, if_pos hc]
    rw [hV, hE]
    obtain ⟨z, hz⟩ : ∃ z, begE (bts s) n = z := ⟨_, rfl⟩
    rw [hz] at hc ⊢
    have hzH := Lib.hid hz
    have hz0 : (z != 0) = true := by simp [hc]
    clear hV hE hz
    go_enter Try.func21, Try.ntmps21
    go_wp2_with (first
      | (go_at_call 54; refine (begun_any s n _).mono ?_; rintro e w1 ⟨rfl, hb1⟩; rw [hzH.out]
         have hbA := (Below.refl w1.heap.size w1).alloc (Nat.le_refl _) (.cells #[.int .i64 z] 23 (0, 0))))
    go_quiet (fail)
    go_wp2_with (fail)
    go_ret2
    exact ⟨rfl, below_drewN (hb1.trans (hbA.mono hb1.size)) _⟩
end Go.Proofs.Ytdaaiockkbolbaa
