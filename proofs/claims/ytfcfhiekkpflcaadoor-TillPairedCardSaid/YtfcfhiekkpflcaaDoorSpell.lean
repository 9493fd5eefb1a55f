/- The law's spelled and choose. -/
import Derived.Test.YtfcfhiekkpflcaaDoorBalP
import Derived.Test.YtfcfhiekkpflcaaDoorMadeQ
namespace Go.Proofs.YtfcfhiekkpflcaaDoor
open Go.RowKit
theorem bit32 {b : Nat} (hb : b < 4294967296) (i : Nat) : bits .and .u32 ((b : Int) / 2 ^ i) 1 = ((b / 2 ^ i % 2 : Nat) : Int) := by
  have h : b / 2 ^ i ≤ b := Nat.div_le_self _ _
  rw [show (b : Int) / 2 ^ i = ((b / 2 ^ i : Nat) : Int) by simp, show (1 : Int) = ((1 : Nat) : Int) by rfl, u32_and_nat _ _ (by omega) (by omega), Nat.and_one_is_mod]
set_option maxRecDepth 100000 in
set_option maxHeartbeats 4000000 in
theorem spelled_any (n x : Nat) (hn : n ≤ 16) (hx : x < 4294967296) (w : World) : Calls Tryd.prog 45 #[.int .i64 (n : Int), .int .u32 (x : Int)] w fun e w' => e = .returned (.string ⟨(spW n x).toArray⟩) ∧ w' = w := by
  have hxi : (x : Int) ≤ 4294967295 := by omega
  obtain ⟨R, hR⟩ : ∃ R, spW n x = R := ⟨_, rfl⟩
  have hR0 := Lib.hid (show bts (⟨#[]⟩ : ByteArray) ++ spW n x = R from hR)
  rw [hR]
  clear hR
  go_enter Tryd.func45, Tryd.ntmps45
  go_wp2_with (fail)
  go_loopw [5, 6] (fun o v wr => ∃ (j : Nat) (t : ByteArray), j ≤ n ∧ v = .int .i64 ((j : Int) - 1) ∧ o = .string t ∧ t.size + j = n ∧ Hid (bts t ++ spW j x = R) ∧ w = wr) (fun _ v _ => ((intOf v) + 1).toNat)
  case atStart => exact ⟨n, ⟨#[]⟩, by omega, rfl, rfl, by show 0 + n = n; omega, hR0, rfl⟩
  case round =>
    obtain ⟨j, t, hj, rfl, rfl, hts, ht, hw⟩ := hrel
    subst hw
    cases j with
    | succ i =>
      have e1 : ((i + 1 : Nat) : Int) - 1 = (i : Int) := by omega
      rw [e1]
      have hti : (t.size : Int) ≤ 16 := by omega
      have hbit := bit32 hx i
      have hm : x / 2 ^ i % 2 = 0 ∨ x / 2 ^ i % 2 = 1 := by omega
      have hN := ht.out
      rw [spW] at hN
      rcases hm with hm | hm
      · rw [hm] at hbit hN
        rw [if_neg (by decide)] at hN
        have hN1 := Lib.hid (show bts (t ++ ⟨#[99]⟩) ++ spW i x = R by rw [← hN, bts_append, List.append_assoc]; rfl)
        have hs1 : (t ++ ⟨#[99]⟩ : ByteArray).size + i = n := by rw [← bts_len, bts_append, List.length_append, bts_len, show (bts (⟨#[99]⟩ : ByteArray)).length = 1 from rfl]; omega
        clear hm hN e1
        go_wp2_with (fail)
        go_roundw
        case rel => exact ⟨i, t ++ ⟨#[99]⟩, by omega, by go_num, rfl, hs1, hN1, by first | rfl | trivial⟩
        case measure => simp only [intOf]; omega
      · rw [hm] at hbit hN
        rw [if_pos rfl] at hN
        have hN1 := Lib.hid (show bts (t ++ ⟨#[110]⟩) ++ spW i x = R by rw [← hN, bts_append, List.append_assoc]; rfl)
        have hs1 : (t ++ ⟨#[110]⟩ : ByteArray).size + i = n := by rw [← bts_len, bts_append, List.length_append, bts_len, show (bts (⟨#[110]⟩ : ByteArray)).length = 1 from rfl]; omega
        clear hm hN e1
        go_wp2_with (fail)
        go_roundw
        case rel => exact ⟨i, t ++ ⟨#[110]⟩, by omega, by go_num, rfl, hs1, hN1, by first | rfl | trivial⟩
        case measure => simp only [intOf]; omega
    | zero =>
      have e1 : ((0 : Nat) : Int) - 1 = -1 := rfl
      rw [e1]
      have hte := Lib.hid (show t = ⟨R.toArray⟩ by
        have := ht.out
        rw [spW, List.append_nil] at this
        rw [← this, mk_bts])
      go_wp2_with (fail)
      go_ret
      exact ⟨by rw [← hte.out]; rfl, rfl⟩
theorem make_ints (n : Nat) (hn : n ≤ 1000) (w : World) : ∃ w1 : World, (Instr.makeSlice 23 (.int .i64 (n : Int)) (.int .i64 (n : Int))).run Tryd.prog w = .ok (.slice (some ⟨w.heap.size, 0, none⟩) n n) w1 ∧ Blk w1 w.heap.size 3 (intArr (List.replicate n 0)) ∧ w.grownBy w1 none := by
  obtain ⟨i0, hi0, hz0, hz1, hz2⟩ := info_parts infoInt
  have hm := run_makeSlice (P := Tryd.prog) w 23 3 i0 (.int .i64 0) Tryd.underlying23 hi0 hz0 .i64 .i64 n n (by omega) (Int.le_refl _) (by rw [hz1]; omega) (by rw [hz2]; omega) (by omega)
  rw [hz1, Int.toNat_natCast, Nat.mul_one] at hm
  rw [← intArr_made]
  exact ⟨_, hm, Blk.new w 3 _, World.grownBy_alloc w _ none⟩
/-- a row of Pascal's triangle: those behind k are of the next one -/
def rowL (i k n : Nat) : List Int := (List.range (n + 1)).map fun j => ((if j ≤ k then ch i j else ch (i + 1) j : Nat) : Int)
theorem rowL_at {i k n j : Nat} (h : j ≤ n) : (rowL i k n)[j]? = some ((if j ≤ k then ch i j else ch (i + 1) j : Nat) : Int) := by
  unfold rowL
  rw [List.getElem?_map, List.getElem?_range (by omega)]
  rfl
theorem rowL_len (i k n : Nat) : (rowL i k n).length = n + 1 := by simp [rowL]
theorem rowL_set {i k n : Nat} (h : k + 1 ≤ n) : (rowL i (k + 1) n).set (k + 1) (ch (i + 1) (k + 1) : Nat) = rowL i k n := by
  apply List.ext_getElem?
  intro j
  by_cases hj : j ≤ n
  · rw [rowL_at hj]
    by_cases hjk : k + 1 = j
    · subst hjk
      rw [List.getElem?_set_self (by rw [rowL_len]; omega), if_neg (by omega)]
    · rw [List.getElem?_set_ne hjk, rowL_at hj]
      by_cases h2 : j ≤ k
      · rw [if_pos h2, if_pos (by omega)]
      · rw [if_neg h2, if_neg (by omega)]
  · rw [List.getElem?_eq_none (by rw [List.length_set, rowL_len]; omega), List.getElem?_eq_none (by rw [rowL_len]; omega)]
theorem rowL_end (i n : Nat) : rowL i 0 n = rowL (i + 1) n n := by
  unfold rowL
  apply List.map_congr_left
  intro j hj
  have := List.mem_range.1 hj
  rw [if_pos (show j ≤ n by omega)]
  by_cases h : j ≤ 0
  · obtain rfl : j = 0 := by omega
    rw [if_pos h, ch_zero, ch_zero]
  · rw [if_neg h]
theorem rowL_start (n : Nat) : (List.replicate (n + 1) (0 : Int)).set 0 1 = rowL 0 n n := by
  apply List.ext_getElem?
  intro j
  by_cases hj : j ≤ n
  · rw [rowL_at hj, if_pos hj]
    by_cases h0 : 0 = j
    · subst h0
      rw [List.getElem?_set_self (by simp), ch_zero]; rfl
    · rw [List.getElem?_set_ne h0, List.getElem?_replicate, if_pos (by omega), ch_none 0 j (by omega)]; rfl
  · rw [List.getElem?_eq_none (by simp; omega), List.getElem?_eq_none (by rw [rowL_len]; omega)]
set_option maxRecDepth 100000 in
set_option maxHeartbeats 4000000 in
theorem choose5_any (m : Nat) (k : Int) (hm : m ≤ 16) (hk : -100 ≤ k ∧ k ≤ 100) (w : World) : Calls Tryd.prog 46 #[.int .i64 (m : Int), .int .i64 k] w fun e w' => e = .returned (.int .i64 (chI m k)) ∧ Below w.heap.size w w' := by
  by_cases hk0 : k < 0
  · have hR := Lib.hid (show chI m k = 0 by unfold chI; rw [if_pos hk0])
    go_enter Tryd.func46, Tryd.ntmps46
    go_wp2_with (fail)
    go_ret
    exact ⟨by rw [hR.out]; rfl, Below.refl _ _⟩
  · obtain ⟨n, rfl⟩ : ∃ n : Nat, k = n := ⟨k.toNat, by omega⟩
    have hR := Lib.hid (show chI m (n : Int) = (ch m n : Nat) by unfold chI; rw [if_neg hk0]; rfl)
    by_cases hnm : m < n
    · have hnmi : (m : Int) < n := by omega
      have hZ := Lib.hid (ch_none m n hnm)
      have hd : decide ((n : Int) < 0) = false := decide_eq_false hk0
      go_enter Tryd.func46, Tryd.ntmps46
      go_wp2_with (fail)
      go_ret
      exact ⟨by rw [hR.out, hZ.out]; rfl, Below.refl _ _⟩
    · have hnmi : ¬ (m : Int) < n := by omega
      have hd : decide ((n : Int) < 0) = false := decide_eq_false hk0
      have hd2 : decide ((m : Int) < n) = false := decide_eq_false hnmi
      obtain ⟨N, hN⟩ : ∃ N, n + 1 = N := ⟨_, rfl⟩
      have hNi : (n : Int) + 1 = N := by omega
      obtain ⟨wm, hmk, hBm, hgm⟩ := make_ints N (by omega) w
      have hbm := below_none (Below.refl w.heap.size w) hgm (Nat.le_refl _)
      have hB0 := hBm.set_ 0 (.int .i64 1)
      have hb0 := hbm.setCell (p := ⟨w.heap.size, 0, none⟩) (Nat.le_refl _) (.int .i64 1)
      rw [intArr_set, ← hN, rowL_start] at hB0
      have hc0 : ∃ u, wm.cell? ⟨w.heap.size, 0, none⟩ = some u := ⟨_, (hBm.cell 0).trans (by rw [intArr_at, List.getElem?_replicate, if_pos (by omega)]; rfl)⟩
      obtain ⟨u0, hc0⟩ := hc0
      have hfz0 : wm.frozen? ⟨w.heap.size, 0, none⟩ = false := hBm.frozen 0
      have hN0 : (0 : Int) < N := by omega
      have hNn : n < N := by omega
      clear hN hBm hgm
      go_enter Tryd.func46, Tryd.ntmps46
      go_wp2_with (fail)
      clear hmk
      go_loopw [20] (fun v wr => ∃ i : Nat, i ≤ m ∧ v = .int .i64 i ∧ Blk wr w.heap.size 3 (intArr (rowL i n n)) ∧ Below w.heap.size w wr) (fun v _ => m - (intOf v).toNat)
      case atStart => exact ⟨0, by omega, rfl, hB0, hb0⟩
      case round =>
        obtain ⟨i, hi, rfl, hB, hbe⟩ := hrel
        by_cases hlt : i < m
        · have hlti : (i : Int) < m := by omega
          clear hB0 hb0 hc0 hfz0
          go_wp2_with (fail)
          go_loopw [6] (fun v wr2 => ∃ k : Nat, k ≤ n ∧ v = .int .i64 k ∧ Blk wr2 w.heap.size 3 (intArr (rowL i k n)) ∧ Below w.heap.size w wr2) (fun v _ => (intOf v).toNat)
          case atStart => exact ⟨n, by omega, rfl, hB, hbe⟩
          case round =>
            obtain ⟨k, hkn, rfl, hB2, hbe2⟩ := hrel
            obtain ⟨wb, rfl⟩ : ∃ x, x = wr := ⟨wr, rfl⟩
            clear hB hbe
            cases k with
            | zero =>
              rw [rowL_end] at hB2
              have hz : ((0 : Nat) : Int) = 0 := rfl
              rw [hz]
              go_wp2_with (fail)
              go_roundw
              case rel => exact ⟨i + 1, by omega, by go_num, hB2, hbe2⟩
              case measure => simp only [intOf]; omega
            | succ k =>
              obtain ⟨K, hK⟩ : ∃ K, k + 1 = K := ⟨_, rfl⟩
              have hKi : (K : Int) - 1 = k := by omega
              have hK0 : (0 : Int) < K := by omega
              have hkw : IntKind.i64.wrap (k : Int) = k := by rw [IntKind.wrap_i64]; omega
              have hset := rowL_set (i := i) (k := k) (n := n) hkn
              have hat1 := rowL_at (i := i) (k := k + 1) (n := n) (j := k + 1) hkn
              have hat2 := rowL_at (i := i) (k := k + 1) (n := n) (j := k) (by omega)
              rw [if_pos (by omega)] at hat1 hat2
              have hsum : ch i (k + 1) + ch i k = ch (i + 1) (k + 1) := by rw [ch]; omega
              have hl1 := ch_le i (k + 1)
              have hl2 := ch_le i k
              have hpw : 2 ^ i ≤ 2 ^ 16 := Nat.pow_le_pow_right (by omega) (by omega)
              have hpv : (2 : Nat) ^ 16 = 65536 := by decide
              rw [hK] at hB2 hset hat1 hat2 hsum hl1 ⊢
              obtain ⟨Y, hY⟩ : ∃ Y, ch i K = Y := ⟨_, rfl⟩
              obtain ⟨Z, hZ⟩ : ∃ Z, ch i k = Z := ⟨_, rfl⟩
              obtain ⟨V, hV⟩ : ∃ V, ch (i + 1) K = V := ⟨_, rfl⟩
              rw [hY] at hat1 hsum hl1
              rw [hZ] at hat2 hsum hl2
              rw [hV] at hset hsum
              have hYb : Y ≤ 65536 := by omega
              have hZb : Z ≤ 65536 := by omega
              have hYZ : (Y : Int) + Z = V := by omega
              have hVw : IntKind.i64.wrap (V : Int) = V := by rw [IntKind.wrap_i64]; omega
              have hyY : wb.cell? ⟨w.heap.size, K, none⟩ = some (.int .i64 (Y : Nat)) := (hB2.cell K).trans (by rw [intArr_at, hat1]; rfl)
              have hyZ : wb.cell? ⟨w.heap.size, k, none⟩ = some (.int .i64 (Z : Nat)) := (hB2.cell k).trans (by rw [intArr_at, hat2]; rfl)
              have hfz : wb.frozen? ⟨w.heap.size, K, none⟩ = false := hB2.frozen K
              have hG2 := (hB2.set_ K (.int .i64 (V : Nat))).drew
              rw [intArr_set, hset] at hG2
              have hbe3 := (hbe2.setCell (p := ⟨w.heap.size, K, none⟩) (Nat.le_refl _) (.int .i64 (V : Nat))).drew
              have hKN : (K : Int) < N := by omega
              have hkN : (k : Int) < N := by omega
              clear hset hat1 hat2 hsum hl1 hl2 hpw hpv hY hZ hV
              go_wp2_with (fail)
              go_region
              go_wp2_with (fail)
              go_roundw
              case rel => exact ⟨k, by omega, by go_num, hG2, hbe3⟩
              case measure => simp only [intOf]; omega
        · have hlti : ¬ (i : Int) < m := by omega
          obtain rfl : i = m := by omega
          have hcn : wr.cell? ⟨w.heap.size, n, none⟩ = some (.int .i64 (ch i n : Nat)) := (hB.cell n).trans (by rw [intArr_at, rowL_at (Nat.le_refl _), if_pos (Nat.le_refl _)]; rfl)
          have hnN : (n : Int) < N := by omega
          go_wp2_with (fail)
          go_ret
          exact ⟨by rw [hR.out]; rfl, hbe⟩
end Go.Proofs.YtfcfhiekkpflcaaDoor
