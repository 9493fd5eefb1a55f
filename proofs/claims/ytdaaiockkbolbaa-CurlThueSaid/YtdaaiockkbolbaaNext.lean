/- Next, Longer, Count. -/
import Derived.Test.YtdaaiockkbolbaaEach
namespace Go.Proofs.Ytdaaiockkbolbaa
open Go.RowKit
/-- []byte(s) -/
theorem row_bytes (w : World) (s : ByteArray) (hs : s.size ≤ 1000000) : Row8 (w.drew.alloc (.cells (bytesRow s (grownCap w s.size 0 5)) 5 ((bytesRow s (grownCap w s.size 0 5)).size, (bytesRow s (grownCap w s.size 0 5)).size + 1))) (.slice (some ⟨w.heap.size, 0, none⟩) s.size (grownCap w s.size 0 5)) (some w.heap.size) (bts s) := by
  have hge := grownCap_ge w s.size 0 5
  have hmx := grownCap_le_maxLen w s.size 0 5 (by simp only [maxLen]; omega)
  obtain ⟨c, hc⟩ : ∃ c, grownCap w s.size 0 5 = c := ⟨_, rfl⟩
  rw [hc] at hge hmx ⊢
  have hsz : (bytesRow s c).size = c := by
    have e : s.data.size = s.size := rfl
    simp only [bytesRow, Array.size_append, Array.size_map, Array.size_replicate]
    omega
  refine ⟨_, c, by rw [bts_len], by rw [bts_len]; exact hge, hmx, fun h => (by cases h), fun g hg => ?_⟩
  obtain rfl : w.heap.size = g := by simpa using hg
  refine ⟨0, bytesRow s c, rfl, ⟨((bytesRow s c).size, (bytesRow s c).size + 1), heap_alloc_new w.drew _, Or.inr (Nat.le_refl _)⟩, by omega, fun j b hj => ?_⟩
  have hj1 : j < s.data.size := by
    have := (List.getElem?_eq_some_iff.1 hj).1
    rwa [bts_len] at this
  rw [Nat.zero_add, bytesRow_at s c j hj1]
  have h2 := bts_at s j hj1
  rw [hj] at h2
  simp only [Option.some.injEq] at h2
  rw [h2]; rfl
theorem bytes_conv (w : World) (s : ByteArray) (hs : s.size ≤ 1000000) : ∃ v w2, (convert 9 55 (.string s)).run Try.prog w = .ok v w2 ∧ Row8 w2 v (some w.heap.size) (bts s) ∧ Below w.heap.size w w2 :=
  ⟨_, _, run_bytes_of_string w 9 55 5 s Try.underlying9 Try.underlying55 Try.underlying5, row_bytes w s hs, (below_drewN (Below.refl w.heap.size w) 1).alloc (Nat.le_refl _) _⟩
/-- what Next returns -/
def nextV (x : Word) (n : Int) : Word := if begE x n = 0 then (runW stepN n.toNat 1 [] x).2 else []
set_option maxRecDepth 100000 in
set_option maxHeartbeats 4000000 in
theorem Next_any (s : ByteArray) (n : Int) (w : World) : Calls Try.prog 19 #[.string s, .int .i64 n] w fun e w' => e = .returned (.tuple #[.string ⟨(nextV (bts s) n).toArray⟩, .int .i64 (begE (bts s) n)]) ∧ Below w.heap.size w w' := by
  by_cases hc : begE (bts s) n = 0
  · obtain ⟨h1, h2, h3, h4, h5⟩ := begE_zero hc
    obtain ⟨hsz, _⟩ := chkW_zero h1
    rw [bts_len] at hsz
    obtain ⟨k, rfl⟩ : ∃ k : Nat, n = k := ⟨n.toNat, by omega⟩
    have hV : nextV (bts s) (k : Int) = (runW stepN k 1 [] (bts s)).2 := by rw [nextV, if_pos hc]; rfl
    rw [hV, hc]
    have hcH := Lib.hid hc
    have hl := Lib.hid h4
    have hk4 : k ≤ 4 := by omega
    have hk1 : 1 ≤ k := by omega
    clear hV hc h1 h4 h5
    go_enter Try.func19, Try.ntmps19
    go_wp2_with (first
      | (go_at_call 54; refine (begun_any s k _).mono ?_; rintro e w1 ⟨rfl, hb1⟩; rw [hcH.out]
         have hbA := (Below.refl w1.heap.size w1).alloc (Nat.le_refl _) (.cells #[.pointer none, .slice none 0 0] 81 (0, 0))
         have hB := BldO.new w1
         have hsA : (w1.alloc (.cells #[.pointer none, .slice none 0 0] 81 (0, 0))).heap.size = w1.heap.size + 1 := by simp
         obtain ⟨v, w2, hcv, hrow, hb2⟩ := bytes_conv (w1.alloc (.cells #[.pointer none, .slice none 0 0] 81 (0, 0))) s (by omega)
         replace hB := hB.keep (w' := w2) (fun i hi => hb2.block i (by rw [hsA]; omega)))
      | (go_at_call 55
         refine (walk_any (nextEach w1.heap.size k (s.size + 1) (by omega) (by omega)) hk4 (by omega) 1 (fun i => i = w1.heap.size) [] w2 v _ (bts s) (by show 0 + 4 ^ 1 ≤ 1000000; decide) (by rw [bts_len]) hl.out hB hrow (fun g hg e => by simp at hg; omega)).mono ?_
         rintro e w3 ⟨O3, rfl, hB3, hr3, hF3, hO3⟩
         have hs2 := hb2.size
         rw [hsA] at hs2
         have hlt3 : w1.heap.size ≤ w3.heap.size := by have := hF3.size; omega
         have hb3 : Below w1.heap.size w1 w3 := (hbA.trans (hb2.mono (by omega))).trans (hF3.below fun i hi => ⟨by omega, fun h => h.elim (fun e => by have e' : i = w1.heap.size := e; omega) (fun e => by simp at e; omega)⟩))
      | (go_at_call 58
         refine (Try.Builder_String_any w1.heap.size w1.heap.size _ _ (BldO.is hB3) hlt3).mono ?_; rintro e w4 ⟨rfl, hb4⟩))
    go_ret2
    exact ⟨rfl, hb1.trans ((hb3.trans hb4).mono hb1.size)⟩
  · have hV : nextV (bts s) n = [] := by rw [nextV, if_neg hc]
    rw [hV]
    obtain ⟨z, hz⟩ : ∃ z, begE (bts s) n = z := ⟨_, rfl⟩
    rw [hz] at hc ⊢
    have hzH := Lib.hid hz
    have hz0 : (z != 0) = true := by simp [hc]
    clear hV hz
    go_enter Try.func19, Try.ntmps19
    go_wp2_with (first
      | (go_at_call 54; refine (begun_any s n _).mono ?_; rintro e w1 ⟨rfl, hb1⟩; rw [hzH.out]))
    go_ret2
    exact ⟨rfl, hb1⟩
end Go.Proofs.Ytdaaiockkbolbaa
