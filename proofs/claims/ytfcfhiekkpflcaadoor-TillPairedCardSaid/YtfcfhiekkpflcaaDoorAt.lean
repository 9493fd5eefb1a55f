/- At: the good order with a number. -/
import Derived.Test.YtfcfhiekkpflcaaDoorCount
namespace Go.Proofs.YtfcfhiekkpflcaaDoor
open Go.RowKit
theorem zero_bld (w : World) : (zeroValue 73).run Tryd.prog w = .ok (.agg #[.pointer none, .slice none 0 0]) w := Tryd.zeroValue73 w
/-- how many go on with a coin -/
def gcN (c n b : Nat) : Nat := if 0 < c then gdN (c - 1 + n) (c - 1) n (b + 1) else 0
/-- the good order with a number -/
def atN : Nat → Nat → Nat → Nat → Nat → Word
  | 0, _, _, _, _ => []
  | s + 1, c, n, b, k => if k < gcN c n b then 99 :: atN s (c - 1) n (b + 1) k else 110 :: atN s c (n - 1) (b - 1) (k - gcN c n b)
theorem bal_gc (c n b : Nat) : balT ((c : Int) - 1) (n : Int) ((b : Int) + 1) = (gcN c n b : Nat) := by
  unfold gcN
  by_cases hc : 0 < c
  · rw [if_pos hc, show (c : Int) - 1 = ((c - 1 : Nat) : Int) by omega, show (b : Int) + 1 = ((b + 1 : Nat) : Int) by omega, bal_gd]
  · rw [if_neg hc]
    unfold balT
    rw [if_pos (by omega)]
    rfl
theorem gc_pos {c n b k : Nat} (h : k < gcN c n b) : 0 < c ∧ k < gdN (c - 1 + n) (c - 1) n (b + 1) := by
  unfold gcN at h
  split at h
  · exact ⟨by assumption, h⟩
  · omega
theorem gc_neg {c n b k : Nat} (h0 : 0 < c + n) (hk : k < gdN (c + n) c n b) (h : ¬ k < gcN c n b) : 0 < n ∧ 0 < b ∧ k - gcN c n b < gdN (c + (n - 1)) c (n - 1) (b - 1) := by
  rw [gd_step h0] at hk
  have e : (if 0 < c then gdN (c - 1 + n) (c - 1) n (b + 1) else 0) = gcN c n b := rfl
  rw [e] at hk
  split at hk
  · rename_i h2
    exact ⟨h2.1, h2.2, by omega⟩
  · omega
theorem bal_le {c n : Nat} (h : c + n ≤ 16) (b : Nat) : gdN (c + n) c n b ≤ 65536 := by
  have h1 := bal_gd c n b
  unfold balT at h1
  have h2 := bal_bound (m := ((c : Int) + n).toNat) (by omega) (n : Int)
  have h3 := bal_bound (m := ((c : Int) + n).toNat) (by omega) ((n : Int) - b - 1)
  split at h1 <;> omega
def atE (c n b k : Int) : Int := if cntE c n b ≠ 0 then cntE c n b else if 0 ≤ k ∧ k < balT c n b then 0 else 1
def atV (c n b k : Int) : Word := if atE c n b k = 0 then atN (c.toNat + n.toNat) c.toNat n.toNat b.toNat k.toNat else []
set_option maxRecDepth 100000 in
set_option maxHeartbeats 4000000 in
theorem At_any (c n b k : Int) (w : World) : Calls Tryd.prog 27 #[.int .i64 c, .int .i64 n, .int .i64 b, .int .i64 k] w fun e w' => e = .returned (.tuple #[.string ⟨(atV c n b k).toArray⟩, .int .i64 (atE c n b k)]) ∧ Below w.heap.size w w' := by
  obtain ⟨E, hE⟩ : ∃ E, cntE c n b = E := ⟨_, rfl⟩
  have hEH := Lib.hid hE
  by_cases h0 : E = 0
  · subst h0
    obtain ⟨q1, q2, q3, q4, q5⟩ := cntE_zero hE
    obtain ⟨C, rfl⟩ : ∃ C : Nat, c = C := ⟨c.toNat, by omega⟩
    obtain ⟨N, rfl⟩ : ∃ N : Nat, n = N := ⟨n.toNat, by omega⟩
    obtain ⟨b0, rfl⟩ : ∃ b0 : Nat, b = b0 := ⟨b.toNat, by omega⟩
    have hV := Lib.hid (show cntV (C : Int) (N : Int) (b0 : Int) = balT C N b0 by unfold cntV; rw [if_pos hE])
    obtain ⟨G, hG⟩ : ∃ G : Nat, gdN (C + N) C N b0 = G := ⟨_, rfl⟩
    have hGH := Lib.hid (show balT (C : Int) (N : Int) (b0 : Int) = (G : Nat) by rw [bal_gd, hG])
    have hG6 := bal_le (c := C) (n := N) (by omega) b0
    rw [hG] at hG6
    obtain ⟨G1, hG1⟩ : ∃ G1 : Int, (G : Int) - 1 = G1 := ⟨_, rfl⟩
    obtain ⟨q, hq⟩ : ∃ q, decide ((0 : Int) ≤ k ∧ k ≤ G1) = q := ⟨_, rfl⟩
    have hqH := Lib.hid hq
    cases q with
    | false =>
      have hb : ¬ (0 ≤ k ∧ k ≤ G1) := by simpa using hq
      have hA := Lib.hid (show atE (C : Int) (N : Int) (b0 : Int) k = 1 by unfold atE; rw [if_neg (by simp [hE]), if_neg (by rw [hGH.out]; omega)])
      have hB := Lib.hid (show atV (C : Int) (N : Int) (b0 : Int) k = [] by unfold atV; rw [hA.out]; rfl)
      rw [hA.out, hB.out]
      clear hE hG hq
      go_enter Tryd.func27, Tryd.ntmps27
      go_wp2_with (first
        | (go_at_call 55; (with_reducible refine (counted_any _ _ _ _).mono ?_); rintro e w2 ⟨rfl, rfl⟩; rw [hV.out, hEH.out, hGH.out])
        | (go_at_call 59; (with_reducible refine (between_any _ _ _ _).mono ?_); rintro e w2 ⟨rfl, rfl⟩; rw [hqH.out]))
      go_ret2
      exact ⟨rfl, Below.refl _ _⟩
    | true =>
      have hb : 0 ≤ k ∧ k ≤ G1 := by simpa using hq
      obtain ⟨K, rfl⟩ : ∃ K : Nat, k = K := ⟨k.toNat, by omega⟩
      have hA := Lib.hid (show atE (C : Int) (N : Int) (b0 : Int) (K : Int) = 0 by unfold atE; rw [if_neg (by simp [hE]), if_pos (by rw [hGH.out]; omega)])
      obtain ⟨R, hR⟩ : ∃ R, atN (C + N) C N b0 K = R := ⟨_, rfl⟩
      have hB := Lib.hid (show atV (C : Int) (N : Int) (b0 : Int) (K : Int) = R by unfold atV; rw [hA.out, if_pos rfl, ← hR]; rfl)
      rw [hA.out, hB.out]
      have hKG : K < gdN (C + N) C N b0 := by omega
      have hKGH := Lib.hid hKG
      have hRH := Lib.hid (show [] ++ atN (C + N) C N b0 K = R from hR)
      clear hE hG hq hR hKG
      go_enter Tryd.func27, Tryd.ntmps27
      go_wp2_with (first
        | (go_at_call 55; (with_reducible refine (counted_any _ _ _ _).mono ?_); rintro e wz ⟨rfl, hwz⟩; replace hwz := hwz.symm; subst hwz; rw [hV.out, hEH.out, hGH.out])
        | (go_at_call 59; (with_reducible refine (between_any _ _ _ _).mono ?_); rintro e wz ⟨rfl, hwz⟩; replace hwz := hwz.symm; subst hwz; rw [hqH.out])
        | (with_reducible show wpList _ _ _ (⟨_, .alloc 73, _, _, _, _⟩ :: _) _ _
           refine wpList_alloc_blk rfl 73 rfl _ zero_bld ?_
           intro w2 bb hBb hgr2 hge2
           have hb2 : Below w.heap.size w w2 := below_none (Below.refl _ _) hgr2 (Nat.le_refl _)
           have hbl2 := hBb.lt
           have hBF0 : Lib.IsBuilderF 73 5 bb bb [] w2 := Lib.IsBuilderF.of (Or.inl ⟨Nat.le_refl _, _, hBb, World.ownsRow_nil _ _ _ _, by simp [Value.ownBlock]⟩)
           clear hgr2 hBb))
      have hwb : w.heap.size ≤ bb := hge2
      simp only [Act.put, List.setIfInBounds_toArray, List.set_cons_succ, List.set_cons_zero]
      go_loopw [0, 1, 2, 3] (fun v0 v1 v2 v3 wr => ∃ (c n b k s : Nat) (out : Word), c + n = s ∧ s ≤ 16 ∧ c + b ≤ 36 ∧ k ≤ 65536 ∧ out.length + s ≤ 16 ∧ v0 = .int .i64 c ∧ v1 = .int .i64 n ∧ v2 = .int .i64 b ∧ v3 = .int .i64 k ∧ Hid (out ++ atN s c n b k = R) ∧ Hid (k < gdN s c n b) ∧ Lib.IsBuilderF 73 5 bb bb (Lib.byteCells out) wr ∧ bb < wr.heap.size ∧ Below w.heap.size w wr) (fun v0 v1 _ _ _ => (intOf v0).toNat + (intOf v1).toNat)
      case atStart => exact ⟨C, N, b0, K, C + N, [], rfl, by omega, by omega, by omega, by simp; omega, rfl, rfl, rfl, rfl, hRH, hKGH, hBF0, hbl2, hb2⟩
      case round =>
        clear hBF0 hbl2 hb2
        obtain ⟨c, n, b, k, s, out, hcs, hs16, hcb, hk6, hol0, rfl, rfl, rfl, rfl, hL, hlt, hBF, hbw, hbe⟩ := hrel
        have hcsi : (c : Int) + n = s := by omega
        have hol : (Lib.byteCells out).length + 1 ≤ 140737488355328 := by rw [Lib.byteCells_length]; omega
        cases s with
        | succ s =>
          have hsi : (0 : Int) < ((s + 1 : Nat) : Int) := by omega
          obtain ⟨X, hX⟩ : ∃ X, gcN c n b = X := ⟨_, rfl⟩
          obtain ⟨c1, hc1⟩ : ∃ c1 : Int, (c : Int) - 1 = c1 := ⟨_, rfl⟩
          obtain ⟨b1, hb1⟩ : ∃ b1 : Nat, (b : Int) + 1 = b1 := ⟨b + 1, by omega⟩
          have hb1n : b + 1 = b1 := by omega
          have hbl := Lib.hid (show ∀ w', Calls Tryd.prog 60 #[.int .i64 c1, .int .i64 n, .int .i64 b1] w' fun e w2 => e = .returned (.int .i64 (X : Nat)) ∧ w2 = w' from fun w' => (ballots_any c1 n b1 (by omega) (by omega) (by omega) (by omega) w').mono (by
            rintro e w2 ⟨rfl, h⟩
            exact ⟨by rw [← hc1, ← hb1, bal_gc, hX], h⟩))
          have hc1b : -1 ≤ c1 ∧ c1 ≤ 16 := by omega
          obtain ⟨hc1a, hc1b⟩ := hc1b
          have hX6 : (X : Int) ≤ 65536 := by
            rw [← hX]
            unfold gcN
            split
            · have := bal_le (c := c - 1) (n := n) (by omega) (b + 1)
              omega
            · omega
          by_cases hkX : k < X
          · have hki : (k : Int) < X := by omega
            obtain ⟨g1, g2⟩ := gc_pos (c := c) (n := n) (b := b) (k := k) (by rw [hX]; exact hkX)
            have e1 := Lib.hid (show c1 = ((c - 1 : Nat) : Int) by omega)
            have hN := Lib.hid (show (out ++ [99]) ++ atN s (c - 1) n b1 k = R by rw [← hL.out, atN, if_pos (by rw [hX]; exact hkX), hb1n]; simp)
            have hG := Lib.hid (show k < gdN s (c - 1) n b1 by rw [← hb1n, show s = c - 1 + n by omega]; exact g2)
            have hcl : c - 1 + n = s := by omega
            clear hX hb1n hkX
            go_wp2_with (first
              | (go_at_call 60; (with_reducible refine (hbl.out _).mono ?_); rintro e w3 ⟨rfl, rfl⟩)
              | (go_at_call 61; (with_reducible refine (Tryd.Builder_WriteByte_k bb bb _ _ _ hBF hol (Nat.le_of_lt hbw)).mono ?_); rintro e w5 ⟨rfl, hB5, hbl5, hok5⟩
                 have hb3 : Below w.heap.size w w5 := hbe.trans (hbl5.mono hwb)
                 have hbl3 : bb < w5.heap.size := (by have := hbl5.size; omega)
                 have hBF3 : Lib.IsBuilderF 73 5 bb bb (Lib.byteCells (out ++ [99])) w5 := by
                   have e : Lib.byteCells (out ++ [99]) = Lib.byteCells out ++ [.int .u8 99] := by simp [Lib.byteCells]
                   rw [e]; exact Or.inr hB5))
            go_roundw
            case rel => exact ⟨c - 1, n, b1, k, s, out ++ [99], hcl, by omega, by omega, hk6, by simp; omega, by rw [e1.out], rfl, rfl, rfl, hN, hG, hBF3, hbl3, hb3⟩
            case measure => (have hq1 := e1.out; rw [hq1]; simp only [intOf]; omega)
          · have hki : ¬ (k : Int) < X := by omega
            obtain ⟨g1, g2, g3⟩ := gc_neg (c := c) (n := n) (b := b) (k := k) (by omega) (by rw [hcs]; exact hlt.out) (by rw [hX]; exact hkX)
            rw [hX] at g3
            obtain ⟨k1, hk1⟩ : ∃ k1 : Nat, k - X = k1 := ⟨_, rfl⟩
            rw [hk1] at g3
            have hk1i : (k : Int) - X = k1 := by omega
            obtain ⟨n1, hn1⟩ : ∃ n1 : Nat, (n : Int) - 1 = n1 := ⟨n - 1, by omega⟩
            obtain ⟨b2, hb2'⟩ : ∃ b2 : Nat, (b : Int) - 1 = b2 := ⟨b - 1, by omega⟩
            have hN := Lib.hid (show (out ++ [110]) ++ atN s c n1 b2 k1 = R by rw [← hL.out, atN, if_neg (by rw [hX]; exact hkX), hX, hk1, show n - 1 = n1 by omega, show b - 1 = b2 by omega]; simp)
            have hG := Lib.hid (show k1 < gdN s c n1 b2 by rw [show n - 1 = n1 by omega, show b - 1 = b2 by omega] at g3; rw [show s = c + n1 by omega]; exact g3)
            have hcl : c + n1 = s := by omega
            clear hX hb1n hkX
            go_wp2_with (first
              | (go_at_call 60; (with_reducible refine (hbl.out _).mono ?_); rintro e w3 ⟨rfl, rfl⟩)
              | (go_at_call 61; (with_reducible refine (Tryd.Builder_WriteByte_k bb bb _ _ _ hBF hol (Nat.le_of_lt hbw)).mono ?_); rintro e w5 ⟨rfl, hB5, hbl5, hok5⟩
                 have hb3 : Below w.heap.size w w5 := hbe.trans (hbl5.mono hwb)
                 have hbl3 : bb < w5.heap.size := (by have := hbl5.size; omega)
                 have hBF3 : Lib.IsBuilderF 73 5 bb bb (Lib.byteCells (out ++ [110])) w5 := by
                   have e : Lib.byteCells (out ++ [110]) = Lib.byteCells out ++ [.int .u8 110] := by simp [Lib.byteCells]
                   rw [e]; exact Or.inr hB5))
            go_roundw
            case rel => exact ⟨c, n1, b2, k1, s, out ++ [110], hcl, by omega, by omega, by omega, by simp; omega, rfl, rfl, rfl, rfl, hN, hG, hBF3, hbl3, hb3⟩
            case measure => simp only [intOf]; omega
        | zero =>
          have hc0 : c = 0 := by omega
          have hn0 : n = 0 := by omega
          have hsi : ¬ (0 : Int) < ((0 : Nat) : Int) := by omega
          have hRo := Lib.hid (show out = R by rw [← hL.out, atN, List.append_nil])
          go_wp2_with (first
            | (go_at_call 62; (with_reducible refine (Tryd.Builder_String_any_k bb bb _ _ hBF (Nat.le_of_lt hbw)).mono ?_); rintro e w5 ⟨rfl, hB5, hbl5, hok5⟩))
          go_ret2
          exact ⟨by rw [← hRo.out]; rfl, hbe.trans (hbl5.mono hwb)⟩
  · have hA := Lib.hid (show atE c n b k = E by unfold atE; rw [hE, if_pos h0])
    have hB := Lib.hid (show atV c n b k = [] by unfold atV; rw [hA.out, if_neg h0])
    have hk0 : (E != 0) = true := by simp [h0]
    rw [hA.out, hB.out]
    clear hE
    go_enter Tryd.func27, Tryd.ntmps27
    go_wp2_with (first
      | (go_at_call 55; (with_reducible refine (counted_any _ _ _ _).mono ?_); rintro e w2 ⟨rfl, rfl⟩; rw [hEH.out]))
    go_ret2
    exact ⟨rfl, Below.refl _ _⟩
end Go.Proofs.YtfcfhiekkpflcaaDoor
