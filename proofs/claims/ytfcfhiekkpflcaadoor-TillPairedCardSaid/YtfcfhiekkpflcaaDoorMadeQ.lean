/- The law's made: an order by numbers. -/
import Derived.Test.YtfcfhiekkpflcaaDoorRun
import Derived.Laws.BitsAllLaws
namespace Go.Proofs.YtfcfhiekkpflcaaDoor
open Go.RowKit
/-- the order whose notes are the bits of a number -/
def queW (b n : Nat) : Word := (List.range n).map fun i => if b / 2 ^ i % 2 = 1 then 110 else 99
theorem queW_len (b n : Nat) : (queW b n).length = n := by simp [queW]
theorem queW_ok (b n : Nat) : okT (queW b n) = true := by
  unfold okT queW
  rw [List.all_map, List.all_eq_true]
  intro x _
  simp only [Function.comp]
  split <;> rfl
theorem queW_succ (b n : Nat) : queW b (n + 1) = queW b n ++ [if b / 2 ^ n % 2 = 1 then 110 else 99] := by
  unfold queW
  rw [List.range_succ, List.map_append]
  rfl
theorem bit16 {b : Nat} (hb : b ≤ 65535) (i : Nat) : bits .and .u16 ((b : Int) / 2 ^ i) 1 = ((b / 2 ^ i % 2 : Nat) : Int) := by
  have h : b / 2 ^ i ≤ b := Nat.div_le_self _ _
  rw [show (b : Int) / 2 ^ i = ((b / 2 ^ i : Nat) : Int) by simp, show (1 : Int) = ((1 : Nat) : Int) by rfl, u16_and_nat _ _ (by omega) (by omega), Nat.and_one_is_mod]
set_option maxRecDepth 100000 in
set_option maxHeartbeats 4000000 in
theorem made_any (a b : Nat) (ha : a ≤ 255) (hb : b ≤ 65535) (w : World) : Calls Tryd.prog 40 #[.agg #[.int .u8 (a : Int), .int .u16 (b : Int)], .int .i64 16] w fun e w' => e = .returned (.string ⟨(queW b (a % 17)).toArray⟩) ∧ Below w.heap.size w w' := by
  obtain ⟨n, hn⟩ : ∃ n, a % 17 = n := ⟨_, rfl⟩
  have hn1 : (a : Int) % 17 = n := by omega
  have hn2 : Int.tmod (a : Int) 17 = n := by rw [Int.tmod_eq_emod_of_nonneg (by omega)]; omega
  have hn16 : n ≤ 16 := by omega
  have hai : (a : Int) ≤ 255 := by omega
  have hbi : (b : Int) ≤ 65535 := by omega
  rw [hn]
  clear hn
  go_enter Tryd.func40, Tryd.ntmps40
  go_wp2_with (first
    | (with_reducible show wpList _ _ _ (⟨_, .box 45 _, _, _, _, _⟩ :: _) _ _
       refine wpList_box_blk rfl 45 _ rfl #[.int .u8 (a : Int), .int .u16 (b : Int)] rfl ?_
       intro w1 g hG hgr hge
       have hb1 : Below w.heap.size w w1 := below_none (Below.refl _ _) hgr (Nat.le_refl _)
       have k0 : w1.cell? ⟨g, 0, none⟩ = some (.int .u8 (a : Int)) := hG.cell 0
       have k1 : w1.cell? ⟨g, 1, none⟩ = some (.int .u16 (b : Int)) := hG.cell 1
       clear hgr))
  go_loopw [6, 15] (fun o v wr => ∃ (i : Nat) (t : ByteArray), i ≤ n ∧ v = .int .i64 i ∧ o = .string t ∧ t.size = i ∧ Hid (bts t = queW b i) ∧ w1 = wr) (fun _ v _ => n - (intOf v).toNat)
  case atStart => exact ⟨0, ⟨#[]⟩, by omega, rfl, rfl, rfl, Lib.hid (by simp [bts, queW]), rfl⟩
  case round =>
    obtain ⟨i, t, hi, rfl, rfl, hts, ht, hw⟩ := hrel
    subst hw
    by_cases hlt : i < n
    · have hlti : (i : Int) < n := by omega
      have hN := Lib.hid (queW_succ b i)
      have hti : (t.size : Int) ≤ 16 := by omega
      have hbit := bit16 hb i
      have hm : b / 2 ^ i % 2 = 0 ∨ b / 2 ^ i % 2 = 1 := by omega
      rcases hm with hm | hm
      · rw [hm] at hbit hN
        rw [if_neg (by decide)] at hN
        have hN1 := Lib.hid (show bts (t ++ ⟨#[99]⟩) = queW b (i + 1) by rw [hN.out, bts_append, ht.out]; rfl)
        have hs1 : (t ++ ⟨#[99]⟩ : ByteArray).size = i + 1 := by rw [← bts_len, bts_append, List.length_append, bts_len, hts]; rfl
        clear hm
        go_wp2_with (fail)
        go_roundw
        case rel => exact ⟨i + 1, t ++ ⟨#[99]⟩, by omega, by go_num, rfl, hs1, hN1, by first | rfl | trivial⟩
        case measure => simp only [intOf]; omega
      · rw [hm] at hbit hN
        rw [if_pos rfl] at hN
        have hN1 := Lib.hid (show bts (t ++ ⟨#[110]⟩) = queW b (i + 1) by rw [hN.out, bts_append, ht.out]; rfl)
        have hs1 : (t ++ ⟨#[110]⟩ : ByteArray).size = i + 1 := by rw [← bts_len, bts_append, List.length_append, bts_len, hts]; rfl
        clear hm
        go_wp2_with (fail)
        go_roundw
        case rel => exact ⟨i + 1, t ++ ⟨#[110]⟩, by omega, by go_num, rfl, hs1, hN1, by first | rfl | trivial⟩
        case measure => simp only [intOf]; omega
    · have hlti : ¬ (i : Int) < n := by omega
      obtain rfl : i = n := by omega
      have hte := Lib.hid (show t = ⟨(queW b i).toArray⟩ by rw [← ht.out, mk_bts])
      go_wp2_with (fail)
      go_ret
      exact ⟨by rw [← hte.out]; rfl, hb1⟩
end Go.Proofs.YtfcfhiekkpflcaaDoor
