/- Number. -/
import Derived.Test.YtfcfhiekkpflcaaDoorAt
namespace Go.Proofs.YtfcfhiekkpflcaaDoor
open Go.RowKit
/-- the number of an order: those that are smaller, customer by customer -/
def numT : Word → Int → Int → Int → Int
  | [], _, _, _ => 0
  | y :: l, c, n, b => if y = 99 then numT l (c - 1) n (b + 1) else balT (c - 1) n (b + 1) + numT l c (n - 1) (b - 1)
theorem balT_bound {c n : Int} (h : c + n ≤ 16) (b : Int) : -65536 ≤ balT c n b ∧ balT c n b ≤ 65536 := by
  unfold balT
  split
  · omega
  · have h1 := bal_bound (m := (c + n).toNat) (by omega) n
    have h2 := bal_bound (m := (c + n).toNat) (by omega) (n - b - 1)
    omega
def numV (l : Word) (b : Int) : Int := if opT l b = 0 ∧ lacksT l b < 0 then numT l (l.count 99 : Nat) ((l.length : Int) - (l.count 99 : Nat)) b else 0
set_option maxRecDepth 100000 in
set_option maxHeartbeats 4000000 in
theorem Number_any (s : ByteArray) (b : Int) (w : World) : Calls Tryd.prog 29 #[.string s, .int .i64 b] w fun e w' => e = .returned (.tuple #[.int .i64 (numV (bts s) b), .int .i64 (coinE (bts s) b)]) ∧ Below w.heap.size w w' := by
  obtain ⟨k, hk⟩ : ∃ k, opT (bts s) b = k := ⟨_, rfl⟩
  have hkH := Lib.hid hk
  by_cases h0 : k = 0
  · subst h0
    obtain ⟨h1, h2, h3⟩ := opT_zero hk
    obtain ⟨h4, h5⟩ := chkT_zero h1
    rw [bts_len] at h4
    obtain ⟨n, hn⟩ : ∃ n, lacksT (bts s) b = n := ⟨_, rfl⟩
    have hlk := Lib.hid (fun w' => lacks_any s b (by omega) h5 (by omega) w')
    rw [hn] at hlk
    by_cases hq : n < 0
    · have hE := Lib.hid (show coinE (bts s) b = 0 by unfold coinE; rw [hk, hn]; simp [hq])
      obtain ⟨C0, hC0⟩ : ∃ C, (bts s).count 99 = C := ⟨_, rfl⟩
      have hcnt := Lib.hid (fun w' => Tryd.strings_Count_one s 99 w')
      have hcb : Lib.countByte s.data.toList 99 = C0 := hC0
      rw [hcb] at hcnt
      have hCle : C0 ≤ s.size := by rw [← hC0, ← bts_len]; exact List.count_le_length
      obtain ⟨N0, hN0⟩ : ∃ N : Nat, (s.size : Int) - C0 = N := ⟨s.size - C0, by omega⟩
      obtain ⟨R, hR⟩ : ∃ R, numT (bts s) C0 N0 b = R := ⟨_, rfl⟩
      have hV := Lib.hid (show numV (bts s) b = R by unfold numV; rw [if_pos ⟨hk, by omega⟩, hC0, bts_len, hN0, hR])
      have hRH := Lib.hid (show 0 + numT ((bts s).drop 0) C0 N0 b = R by rw [List.drop_zero, hR, Int.zero_add])
      have hCH := Lib.hid (show C0 = ((bts s).drop 0).count 99 by rw [List.drop_zero, hC0])
      have hokH := Lib.hid h5
      have hqi : ¬ (0 : Int) ≤ n := by omega
      rw [hE.out, hV.out]
      clear hk hn h1 h5 hC0 hcb hR
      go_enter Tryd.func29, Tryd.ntmps29
      go_wp2_with (first
        | (go_at_call 47; (with_reducible refine (opened_any _ _ _).mono ?_); rintro e w1 ⟨rfl, hb1⟩; rw [hkH.out])
        | (go_at_call 48; (with_reducible refine (hlk.out _).mono ?_); rintro e w2 ⟨rfl, hb2⟩; replace hb2 := hb1.trans (hb2.mono hb1.size))
        | (go_at_call 64; (with_reducible refine (hcnt.out _).mono ?_); rintro e wz ⟨rfl, hwz⟩; replace hwz := hwz.symm; subst hwz))
      go_loopw [1, 7, 8, 9] (fun v1 v7 v8 v9 wr => ∃ (pos C N : Nat) (x out : Int), pos ≤ s.size ∧ C + N + pos = s.size ∧ 0 ≤ x + pos ∧ x ≤ 20 + pos ∧ -65536 * (pos : Int) ≤ out ∧ out ≤ 65536 * (pos : Int) ∧ v1 = .int .i64 x ∧ v7 = .int .i64 out ∧ v8 = .int .i64 C ∧ v9 = .int .i64 N ∧ Hid (C = ((bts s).drop pos).count 99) ∧ Hid (out + numT ((bts s).drop pos) C N x = R) ∧ wr.heap[w2.heap.size]? = some (.stringIter s pos) ∧ Below w.heap.size w wr) (fun _ _ _ _ wr => s.size - wr.iterPos w2.heap.size)
      case atStart => exact ⟨0, C0, N0, b, 0, by omega, by omega, by omega, by omega, by omega, by omega, rfl, rfl, rfl, rfl, hCH, hRH, by first | exact World.iter_heap w2 s 0 | simp, hb2.alloc hb2.size _⟩
      case round =>
        obtain ⟨pos, C, N, x, out, hpos, hCN, hx1, hx2, ho1, ho2, rfl, rfl, rfl, rfl, hC, hL, hit, hbe⟩ := hrel
        by_cases hp : pos < s.size
        · obtain ⟨y, wn, hy, hitn, hgn, hyy⟩ := iter_cn hokH.out hit hp
          have hben := below_some hbe hgn hbe.size (by have := hb2.size; omega)
          have hd : (bts s).drop pos = y :: (bts s).drop (pos + 1) := by
            obtain ⟨hl, he⟩ := List.getElem?_eq_some_iff.1 hy
            rw [List.drop_eq_getElem_cons hl, he]
          have hcl : ((bts s).drop (pos + 1)).count 99 ≤ s.size - (pos + 1) := by
            have := List.count_le_length (a := (99 : UInt8)) (l := (bts s).drop (pos + 1))
            rwa [List.length_drop, bts_len] at this
          have hC' := hC.out
          have hL' := hL.out
          rw [hd] at hC' hL'
          rcases hyy with ⟨rfl, hnx⟩ | ⟨rfl, hnx⟩
          · rw [List.count_cons_self] at hC'
            obtain ⟨C1, hC1⟩ : ∃ C1 : Nat, (C : Int) - 1 = C1 := ⟨C - 1, by omega⟩
            have hCn := Lib.hid (show C1 = ((bts s).drop (pos + 1)).count 99 by omega)
            obtain ⟨x1, hx⟩ : ∃ x1, x + 1 = x1 := ⟨_, rfl⟩
            have hLn := Lib.hid (show out + numT ((bts s).drop (pos + 1)) C1 N x1 = R by rw [← hL', numT, if_pos rfl, hC1, hx])
            clear hC' hL' hd hy hcl
            go_wp2_with (fail)
            go_roundw
            case rel => exact ⟨pos + 1, C1, N, x1, out, by omega, by omega, by omega, by omega, by omega, by omega, rfl, rfl, rfl, rfl, hCn, hLn, hitn, hben⟩
            case measure => simp only [World.iterPos, hit, hitn]; omega
          · rw [List.count_cons_of_ne (by decide)] at hC'
            obtain ⟨N1, hN1⟩ : ∃ N1 : Nat, (N : Int) - 1 = N1 := ⟨N - 1, by omega⟩
            obtain ⟨C1, hC1⟩ : ∃ C1 : Int, (C : Int) - 1 = C1 := ⟨_, rfl⟩
            have hCn := Lib.hid (show C = ((bts s).drop (pos + 1)).count 99 from hC')
            obtain ⟨x1, hx⟩ : ∃ x1, x + 1 = x1 := ⟨_, rfl⟩
            obtain ⟨x2, hxx⟩ : ∃ x2, x - 1 = x2 := ⟨_, rfl⟩
            obtain ⟨X, hX⟩ : ∃ X, balT C1 N x1 = X := ⟨_, rfl⟩
            have hXb := balT_bound (c := C1) (n := (N : Int)) (by omega) x1
            rw [hX] at hXb
            obtain ⟨hXa, hXb⟩ := hXb
            obtain ⟨o1, hoe⟩ : ∃ o1, out + X = o1 := ⟨_, rfl⟩
            have hLn := Lib.hid (show o1 + numT ((bts s).drop (pos + 1)) C N1 x2 = R by rw [← hL', numT, if_neg (by decide), hC1, hx, hX, hN1, hxx, ← hoe, Int.add_assoc])
            have hbl := Lib.hid (show ∀ w', Calls Tryd.prog 60 #[.int .i64 C1, .int .i64 N, .int .i64 x1] w' fun e w2 => e = .returned (.int .i64 X) ∧ w2 = w' from fun w' => (ballots_any C1 N x1 (by omega) (by omega) (by omega) (by omega) w').mono (by
              rintro e w2 ⟨rfl, h⟩
              exact ⟨by rw [hX], h⟩))
            have hC1b : -1 ≤ C1 ∧ C1 ≤ 16 := by omega
            obtain ⟨hC1a, hC1b⟩ := hC1b
            have hob : -2000000 ≤ o1 ∧ o1 ≤ 2000000 := by omega
            obtain ⟨hoa, hob⟩ := hob
            have ho3 := Lib.hid (show -65536 * ((pos + 1 : Nat) : Int) ≤ o1 ∧ o1 ≤ 65536 * ((pos + 1 : Nat) : Int) by omega)
            have hx4 := Lib.hid (show 0 ≤ x2 + ((pos + 1 : Nat) : Int) ∧ x2 ≤ 20 + ((pos + 1 : Nat) : Int) by omega)
            have hx5 : -40 ≤ x2 := by omega
            clear hC' hL' hd hy hcl hX
            go_wp2_with (first
              | (go_at_call 60; (with_reducible refine (hbl.out _).mono ?_); rintro e wz ⟨rfl, hwz⟩; replace hwz := hwz.symm; subst hwz))
            go_roundw
            case rel => exact ⟨pos + 1, C, N1, x2, o1, by omega, by omega, hx4.out.1, hx4.out.2, ho3.out.1, ho3.out.2, rfl, rfl, rfl, rfl, hCn, hLn, hitn, hben⟩
            case measure => simp only [World.iterPos, hit, hitn]; omega
        · have hnx := iter_end hit hp
          have hoR := Lib.hid (show out = R by
            have := hL.out
            rw [List.drop_of_length_le (by rw [bts_len]; omega), numT, Int.add_zero] at this
            exact this)
          go_wp2_with (fail)
          go_ret2
          exact ⟨by rw [← hoR.out]; rfl, hbe⟩
    · have hE := Lib.hid (show coinE (bts s) b = 14 by unfold coinE; rw [hk, hn]; simp [hq])
      have hV := Lib.hid (show numV (bts s) b = 0 by unfold numV; rw [hn, if_neg (by omega)])
      have hqi : (0 : Int) ≤ n := by omega
      rw [hE.out, hV.out]
      clear hk hn h1 h5
      go_enter Tryd.func29, Tryd.ntmps29
      go_wp2_with (first
        | (go_at_call 47; (with_reducible refine (opened_any _ _ _).mono ?_); rintro e w1 ⟨rfl, hb1⟩; rw [hkH.out])
        | (go_at_call 48; (with_reducible refine (hlk.out _).mono ?_); rintro e w2 ⟨rfl, hb2⟩; replace hb2 := hb1.trans (hb2.mono hb1.size)))
      go_ret2
      exact ⟨rfl, hb2⟩
  · have hE := Lib.hid (show coinE (bts s) b = k by unfold coinE; rw [hk]; simp [h0])
    have hV := Lib.hid (show numV (bts s) b = 0 by unfold numV; rw [hk]; simp [h0])
    have hk0 : (k != 0) = true := by simp [h0]
    rw [hE.out, hV.out]
    clear hk
    go_enter Tryd.func29, Tryd.ntmps29
    go_wp2_with (first
      | (go_at_call 47; (with_reducible refine (opened_any _ _ _).mono ?_); rintro e w1 ⟨rfl, hb1⟩; rw [hkH.out]))
    go_ret2
    exact ⟨rfl, hb1⟩
end Go.Proofs.YtfcfhiekkpflcaaDoor
