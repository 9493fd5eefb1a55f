/- Next, Farthest and Times of the program. -/
import Derived.Test.YtjhcemhnnkcjaaaDoorApi2
import Derived.Deep.OwnRows
namespace Go.Proofs.YtjhcemhnnkcjaaaDoor
open Go.RowKit
def nextS (a b : Nat) : Nat := if a < b then tz (a + 1) else tz a
def nextE (xs ys : List Int) : Int := if bothE xs ys ≠ 0 then bothE xs ys else if numS xs = numS ys then 12 else 0
theorem nextE_bad {xs ys : List Int} (h : bothE xs ys ≠ 0) : nextE xs ys = bothE xs ys := by rw [nextE, if_pos h]
theorem nextE_same {xs ys : List Int} (h : bothE xs ys = 0) (h2 : numS xs = numS ys) : nextE xs ys = 12 := by rw [nextE, if_neg (by simp [h]), if_pos h2]
theorem nextE_ok {xs ys : List Int} (h : bothE xs ys = 0) (h2 : numS xs ≠ numS ys) : nextE xs ys = 0 := by rw [nextE, if_neg (by simp [h]), if_neg h2]
theorem distS_ne {a b : Nat} (h : a ≠ b) : ((distS a b : Int) == 0) = false := by unfold distS; simp; omega
set_option maxRecDepth 100000 in
set_option maxHeartbeats 2000000 in
theorem Next_any (A B : Option Addr) (n m c d : Nat) (xs ys : List Int) (w : World) (ha : RInts w w.heap.size A n xs) (hb : RInts w w.heap.size B m ys) (hn : n ≤ maxLen) (hm : m ≤ maxLen) (hT : Tab w) :
    Calls Tryd.prog 25 #[.slice A n c, .slice B m d] w (RetI (if nextE xs ys = 0 then (nextS (numS xs) (numS ys) : Int) else 0) (nextE xs ys) w) := by
  by_cases he : bothE xs ys = 0
  · obtain ⟨rfl, hx, hy, l1, l2, h16, _, _⟩ := walked_pre ha hb he
    have hX := Lib.hid hx
    have hY := Lib.hid hy
    have k1 : numS xs < 65536 := by omega
    have k2 : numS ys < 65536 := by omega
    clear hx hy l1 l2 h16
    rcases Nat.lt_trichotomy (numS xs) (numS ys) with hlt | heq | hgt
    · have hN := nextE_ok he (show numS xs ≠ numS ys by omega)
      have hd := distS_ne (show numS xs ≠ numS ys by omega)
      have hS : nextS (numS xs) (numS ys) = tz (numS xs + 1) := by rw [nextS, if_pos hlt]
      rw [hN, if_pos rfl, hS]
      clear hN hS he
      go_enter Tryd.func25, Tryd.ntmps25
      go_wp2_with (first
        | (go_at_call 56; refine (walked_ok A B n c d xs ys w ha hb hn hX.out hY.out).mono ?_; rintro e w1 ⟨rfl, hb1⟩; unfold walkC)
        | (go_at_call 57; refine (size_any _ _ _ k1 k2 _).mono ?_; rintro e w2 ⟨rfl, hb2⟩
           have hBw := Blk.below (Blk.new w1 78 (walkC n (numS xs) (numS ys))) hb2 (by simp)
           obtain ⟨q0, q1, q2⟩ := stepS_of hBw
           have hbe2 := (hb1.alloc hb1.size (.cells (walkC n (numS xs) (numS ys)) 78)).trans (hb2.mono (by simp; have := hb1.size; omega)))
        | (go_at_call 59; refine (step_up n (numS xs) (numS ys) hlt k2 _ (hT.later hbe2)).mono ?_; rintro e w3 ⟨rfl, hb3⟩; unfold walkC))
      go_ret2
      exact ⟨rfl, by have h3 := hbe2.trans (hb3.mono hbe2.size); exact h3.alloc h3.size _⟩
    · have hN := nextE_same he heq
      have hd : ((distS (numS xs) (numS ys) : Int) == 0) = true := by unfold distS; simp; omega
      rw [hN, if_neg (by decide)]
      have hE := Lib.hid heq
      clear hN he heq
      go_enter Tryd.func25, Tryd.ntmps25
      go_wp2_with (first
        | (go_at_call 56; refine (walked_ok A B n c d xs ys w ha hb hn hX.out hY.out).mono ?_; rintro e w1 ⟨rfl, hb1⟩; unfold walkC)
        | (go_at_call 57; refine (size_any _ _ _ k1 k2 _).mono ?_; rintro e w2 ⟨rfl, hb2⟩))
      go_ret2
      exact ⟨rfl, (hb1.alloc hb1.size (.cells (walkC n (numS xs) (numS ys)) 78)).trans (hb2.mono (by simp; have := hb1.size; omega))⟩
    · have hN := nextE_ok he (show numS xs ≠ numS ys by omega)
      have hd := distS_ne (show numS xs ≠ numS ys by omega)
      have hS : nextS (numS xs) (numS ys) = tz (numS xs) := by rw [nextS, if_neg (by omega)]
      rw [hN, if_pos rfl, hS]
      clear hN hS he
      go_enter Tryd.func25, Tryd.ntmps25
      go_wp2_with (first
        | (go_at_call 56; refine (walked_ok A B n c d xs ys w ha hb hn hX.out hY.out).mono ?_; rintro e w1 ⟨rfl, hb1⟩; unfold walkC)
        | (go_at_call 57; refine (size_any _ _ _ k1 k2 _).mono ?_; rintro e w2 ⟨rfl, hb2⟩
           have hBw := Blk.below (Blk.new w1 78 (walkC n (numS xs) (numS ys))) hb2 (by simp)
           obtain ⟨q0, q1, q2⟩ := stepS_of hBw
           have hbe2 := (hb1.alloc hb1.size (.cells (walkC n (numS xs) (numS ys)) 78)).trans (hb2.mono (by simp; have := hb1.size; omega)))
        | (go_at_call 59; refine (step_down n (numS xs) (numS ys) hgt k1 _ (hT.later hbe2)).mono ?_; rintro e w3 ⟨rfl, hb3⟩; unfold walkC))
      go_ret2
      exact ⟨rfl, by have h3 := hbe2.trans (hb3.mono hbe2.size); exact h3.alloc h3.size _⟩
  · have hE := Lib.hid he
    have hbb : (bothE xs ys != 0) = true := by simpa using he
    rw [nextE_bad he, if_neg he]
    clear he
    go_enter Tryd.func25, Tryd.ntmps25
    go_wp2_with (first
      | (go_at_call 56; refine (walked_bad A B n m c d xs ys w ha hb hn hm hE.out).mono ?_; rintro e w1 ⟨rfl, hb1⟩; unfold walkC))
    go_ret2
    exact ⟨rfl, hb1.alloc hb1.size _⟩
end Go.Proofs.YtjhcemhnnkcjaaaDoor
