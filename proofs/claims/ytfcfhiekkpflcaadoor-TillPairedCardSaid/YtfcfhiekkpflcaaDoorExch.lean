/- Exchange. -/
import Derived.Test.YtfcfhiekkpflcaaDoorPairs
import Derived.Lib.BufferWrite
namespace Go.Proofs.YtfcfhiekkpflcaaDoor
open Go.RowKit
theorem infoU8 : (Tryd.prog.info? 5).map (fun i => (i.zero, i.size, i.bytes)) = some (some (.int .u8 0), 1, 1) := by kernel_rfl
def flipC (c : UInt8) : UInt8 := 209 - c
/-- the first customers are exchanged -/
def exT (l : Word) (k : Nat) : Word := (l.take k).map flipC ++ l.drop k
def exV (l : Word) (b : Int) : Word := if opT l b = 0 ∧ 0 ≤ lacksT l b then exT l (lacksT l b + 1).toNat else []
theorem exT_len (l : Word) (k : Nat) : (exT l k).length = l.length := by simp [exT]; omega
theorem exT_at {l : Word} {k : Nat} {y : UInt8} (h : l[k]? = some y) : (exT l k)[k]? = some y := by
  obtain ⟨hk, _⟩ := List.getElem?_eq_some_iff.1 h
  unfold exT
  rw [List.getElem?_append_right (by simp; omega), List.length_map, List.length_take, List.getElem?_drop, show k + (k - min k l.length) = k by omega, h]
theorem exT_set {l : Word} {k : Nat} {y : UInt8} (h : l[k]? = some y) : (exT l k).set k (flipC y) = exT l (k + 1) := by
  obtain ⟨hk, he⟩ := List.getElem?_eq_some_iff.1 h
  unfold exT
  rw [List.take_add_one, h, Option.toList_some, List.map_append, List.append_assoc, List.set_append_right _ _ (by simp; omega), List.length_map, List.length_take, show k - min k l.length = 0 by omega,
    List.drop_eq_getElem_cons hk, List.set_cons_zero]
  rfl
def cells8 (l : Word) : Array Value := (Lib.byteCells l).toArray
theorem cells8_at {l : Word} {k : Nat} {y : UInt8} (h : l[k]? = some y) : (cells8 l)[k]? = some (.int .u8 (y.toNat : Int)) := by simp [cells8, Lib.byteCells, h]
theorem cells8_set (l : Word) (k : Nat) (y : UInt8) : (cells8 l).setIfInBounds k (.int .u8 (y.toNat : Int)) = cells8 (l.set k y) := by
  simp [cells8, Lib.byteCells, List.map_set]
/-- bytes that the call itself makes, and a string copied into them -/
theorem make8 (s : ByteArray) (hs : s.size ≤ 1000) (w : World) : ∃ w1 w2 : World, (Instr.makeSlice 61 (.int .i64 (s.size : Int)) (.int .i64 (s.size : Int))).run Tryd.prog w = .ok (.slice (some ⟨w.heap.size, 0, none⟩) s.size s.size) w1 ∧
    (∀ ty, (Builtin.copy_ #[61, 9] ty #[.slice (some ⟨w.heap.size, 0, none⟩) s.size s.size, .string s]).run Tryd.prog w1 = .ok (.int .i64 (s.size : Int)) w2) ∧ Blk w2 w.heap.size 5 (cells8 (bts s)) ∧ w.grownBy w2 none := by
  obtain ⟨i0, hi0, hz0, hz1, hz2⟩ := info_parts infoU8
  have hm := run_makeSlice (P := Tryd.prog) w 61 5 i0 (.int .u8 0) Tryd.underlying61 hi0 hz0 .i64 .i64 s.size s.size (by omega) (Int.le_refl _) (by rw [hz1]; omega) (by rw [hz2]; omega) (by omega)
  rw [hz1, Int.toNat_natCast, Nat.mul_one] at hm
  have hsz := size_madeCells (Value.int .u8 0).cells s.size
  have hB := Blk.new w 5 (madeCells (Value.int .u8 0).cells s.size)
  refine ⟨_, (w.alloc (.cells (madeCells (Value.int .u8 0).cells s.size) 5)).setRow w.heap.size (cells8 (bts s)), hm, fun ty => ?_, Blk.row hB _, ?_⟩
  · have hc := Lib.run_copy_row_string (P := Tryd.prog) (w.alloc (.cells (madeCells (Value.int .u8 0).cells s.size) 5)) 61 9 ty 5 w.heap.size 0 s.size s.size s _ 5 Tryd.underlying61 (by rw [hi0]; simp [hz1]) hB (Nat.le_refl _) (by rw [hsz]; omega)
    rw [hc]
    have e : ((madeCells (Value.int .u8 0).cells s.size).toList.take 0 ++ Lib.byteCells s.data.toList ++ (madeCells (Value.int .u8 0).cells s.size).toList.drop (0 + s.size)).toArray = cells8 (bts s) := by
      rw [List.take_zero, List.nil_append, List.drop_of_length_le (by rw [Array.length_toList, hsz]; omega), List.append_nil]
      rfl
    rw [e]; rfl
  · exact ⟨rfl, rfl, rfl, by simp, fun i hi _ => by
      rw [setRow_other _ _ _ _ (by omega)]
      exact (World.grownBy_alloc w _ none).block i hi (by simp)⟩
set_option maxRecDepth 100000 in
set_option maxHeartbeats 4000000 in
theorem Exchange_any (s : ByteArray) (b : Int) (w : World) : Calls Tryd.prog 35 #[.string s, .int .i64 b] w fun e w' => e = .returned (.tuple #[.string ⟨(exV (bts s) b).toArray⟩, .int .i64 (lackE (bts s) b)]) ∧ Below w.heap.size w w' := by
  obtain ⟨k, hk⟩ : ∃ k, opT (bts s) b = k := ⟨_, rfl⟩
  have hkH := Lib.hid hk
  by_cases h0 : k = 0
  · subst h0
    obtain ⟨h1, h2, h3⟩ := opT_zero hk
    obtain ⟨h4, h5⟩ := chkT_zero h1
    rw [bts_len] at h4
    obtain ⟨n, hn⟩ : ∃ n, lacksT (bts s) b = n := ⟨_, rfl⟩
    have hlk := Lib.hid (fun w' => lacks_any s b (by omega) h5 (by omega) w')
    have hnb := negI_bound (stepsT b (bts s)) 0
    rw [show negI (stepsT b (bts s)) 0 = n from hn, steps_len, bts_len] at hnb
    rw [hn] at hlk
    by_cases hq : n < 0
    · have hR := Lib.hid (show exV (bts s) b = [] ∧ lackE (bts s) b = 12 by unfold exV lackE; rw [hk, hn]; exact ⟨if_neg (by omega), by simp [hq]⟩)
      clear hk hn h1 h5
      rw [hR.out.1, hR.out.2]
      go_enter Tryd.func35, Tryd.ntmps35
      go_wp2_with (first
        | (go_at_call 47; (with_reducible refine (opened_any _ _ _).mono ?_); rintro e w1 ⟨rfl, hb1⟩; rw [hkH.out])
        | (go_at_call 48; (with_reducible refine (hlk.out _).mono ?_); rintro e w2 ⟨rfl, hb2⟩; replace hb2 := hb1.trans (hb2.mono hb1.size)))
      go_ret2
      exact ⟨rfl, hb2⟩
    · obtain ⟨n1, hn1⟩ : ∃ n1 : Nat, n + 1 = n1 := ⟨(n + 1).toNat, by omega⟩
      have hR := Lib.hid (show exV (bts s) b = exT (bts s) n1 ∧ lackE (bts s) b = 0 by unfold exV lackE; rw [hk, hn]; exact ⟨by rw [if_pos ⟨rfl, by omega⟩, hn1]; rfl, by simp [hq]⟩)
      have hn1s : n1 ≤ s.size := by omega
      have hokH := Lib.hid h5
      have hmk := Lib.hid (fun w' => make8 s (by omega) w')
      clear hk hn h1 h5 hnb
      rw [hR.out.1, hR.out.2]
      go_enter Tryd.func35, Tryd.ntmps35
      go_wp2_with (first
        | (go_at_call 47; (with_reducible refine (opened_any _ _ _).mono ?_); rintro e w1 ⟨rfl, hb1⟩; rw [hkH.out])
        | (go_at_call 48; (with_reducible refine (hlk.out _).mono ?_); rintro e w2 ⟨rfl, hb2⟩; replace hb2 := hb1.trans (hb2.mono hb1.size)
           obtain ⟨w3, w4, hmk3, hcp4, hB4, hg4⟩ := hmk.out w2
           have hb4 := below_none hb2 hg4 hb2.size))
      have hex0 := Lib.hid (show exT (bts s) 0 = bts s by simp [exT])
      go_loopw [29] (fun v wr => ∃ i : Nat, i ≤ n1 ∧ v = .int .i64 i ∧ Blk wr w2.heap.size 5 (cells8 (exT (bts s) i)) ∧ Below w.heap.size w wr) (fun v _ => n1 - (intOf v).toNat)
      case atStart => exact ⟨0, by omega, rfl, by rw [hex0.out]; exact hB4, hb4⟩
      case round =>
        obtain ⟨i, hin, rfl, hB, hbe⟩ := hrel
        by_cases hlt : i < n1
        · have hlti : (i : Int) < n1 := by omega
          obtain ⟨y, hy⟩ : ∃ y, (bts s)[i]? = some y := ⟨_, bts_at s i (by omega)⟩
          have hyy := okT_at hokH.out (List.mem_of_getElem? hy)
          have hcell : wr.cell? ⟨w2.heap.size, i, none⟩ = some (.int .u8 (y.toNat : Int)) := (hB.cell i).trans (cells8_at (exT_at hy))
          have hfz : wr.frozen? ⟨w2.heap.size, i, none⟩ = false := hB.frozen i
          have hset := Lib.hid (cells8_set (exT (bts s) i) i (flipC y))
          rw [exT_set hy] at hset
          have hBn := hB.set_ i (.int .u8 ((flipC y).toNat : Int))
          rw [hset.out] at hBn
          have hben := hbe.setCell (p := ⟨w2.heap.size, i, none⟩) hb2.size (.int .u8 ((flipC y).toNat : Int))
          have hi16 : i < s.size := by omega
          rcases hyy with rfl | rfl
          · go_wp2_with (fail)
            go_roundw
            case rel => exact ⟨i + 1, by omega, by go_num, hBn, hben⟩
            case measure => simp only [intOf]; omega
          · go_wp2_with (fail)
            go_roundw
            case rel => exact ⟨i + 1, by omega, by go_num, hBn, hben⟩
            case measure => simp only [intOf]; omega
        · have hlti : ¬ (i : Int) < n1 := by omega
          obtain rfl : i = n1 := by omega
          have hcv := run_convert_bytes_back (P := Tryd.prog) wr 61 9 5 ⟨w2.heap.size, 0, none⟩ s.size (exT (bts s) i) Tryd.underlying61 Tryd.underlying5 Tryd.underlying9 (fun j hj => by
            rw [Addr.add_lit, Nat.zero_add, hB.cell]
            exact cells8_at (List.getElem?_eq_getElem hj))
          rw [exT_len, bts_len] at hcv
          go_wp2_with (fail)
          go_ret2
          exact ⟨rfl, hbe⟩
  · have hR := Lib.hid (show exV (bts s) b = [] ∧ lackE (bts s) b = k by unfold exV lackE; rw [hk]; simp [h0])
    have hk0 : (k != 0) = true := by simp [h0]
    clear hk
    rw [hR.out.1, hR.out.2]
    go_enter Tryd.func35, Tryd.ntmps35
    go_wp2_with (first
      | (go_at_call 47; (with_reducible refine (opened_any _ _ _).mono ?_); rintro e w1 ⟨rfl, hb1⟩; rw [hkH.out]))
    go_ret2
    exact ⟨rfl, hb1⟩
end Go.Proofs.YtfcfhiekkpflcaaDoor
