/- summed, walked. -/
import Derived.Test.YtbgakdpbglpfaaaGreatDoorDrWg
namespace Go.Proofs.YtbgakdpbglpfaaaGreatDoor
open Go.RowKit
namespace Dr
set_option linter.unusedSimpArgs false
def sumB (bs : List UInt8) : Nat := bs.foldl (fun n c => (23 * n + c.toNat) % 9901) 11
theorem sumB_snoc (bs : List UInt8) (c : UInt8) : sumB (bs ++ [c]) = (23 * sumB bs + c.toNat) % 9901 := by
  unfold sumB
  rw [List.foldl_append, List.foldl_cons, List.foldl_nil]
theorem sumB_lt (bs : List UInt8) : sumB bs < 9901 := by
  rcases List.eq_nil_or_concat bs with rfl | ⟨l, c, rfl⟩
  · decide
  · rw [List.concat_eq_append, sumB_snoc]
    exact Nat.mod_lt _ (by decide)
section
variable {w w' : World}
set_option maxRecDepth 100000 in
set_option maxHeartbeats 2000000 in
theorem summed_any (s : ByteArray) (hs : s.size ≤ 1000000) (w : World) :
    Calls Tryz.prog 66 #[.string s] w fun e w' => e = .returned (.int .i64 (sumB (byts s) : Int)) ∧ Below w.heap.size w w' := by
  have hcv := Lib.run_convert_string_bytes (P := Tryz.prog) w 9 71 5 s Tryz.underlying9 Tryz.underlying71 Tryz.underlying5
  obtain ⟨cc, hcc⟩ : ∃ q, grownCap w s.size 0 5 = q := ⟨_, rfl⟩
  obtain ⟨w2, hw2⟩ : ∃ q, Lib.bytesWorld w 5 s = q := ⟨_, rfl⟩
  have HCE := Lib.hid (Lib.bytesWorld_cell w 5 s)
  have hb2 : Below w.heap.size w w2 := by rw [← hw2]; exact ⟨rfl, rfl, rfl, by rw [Lib.bytesWorld_size]; omega, fun j hj => Lib.bytesWorld_at_old w _ s j hj⟩
  rw [hw2] at hcv HCE
  rw [hcc] at hcv
  clear hw2 hcc
  obtain ⟨n, hn⟩ : ∃ q, s.size = q := ⟨_, rfl⟩
  have hbl := byts_len s
  rw [hn] at hcv HCE hs hbl
  obtain ⟨g, hg⟩ : ∃ q, w.heap.size = q := ⟨_, rfl⟩
  rw [hg] at hcv HCE
  clear hg
  go_enter Tryz.func66, Tryz.ntmps66
  go_wp2_with (fail)
  go_loopw [3, 9] (fun t v wr => ∃ i : Nat, i ≤ n ∧ v = .int .i64 i ∧ t = .int .i64 (sumB ((byts s).take i) : Int) ∧ w2 = wr) (fun _ v _ => n - (intOf v).toNat)
  case atStart => exact ⟨0, Nat.zero_le _, rfl, rfl, rfl⟩
  case round =>
    obtain ⟨i, hi, rfl, rfl, hw⟩ := hrel
    subst hw
    by_cases hlt : i < n
    · have hlti : (i : Int) < n := by omega
      have hi0 : (0 : Int) ≤ i := by omega
      have hce := HCE.out i hlt
      have hat : (byts s)[i]? = some (s.data.toList.getD i 0) := by
        rw [List.getD_eq_getElem?_getD]
        have h : i < s.data.toList.length := by
          have e : s.data.toList.length = n := hbl
          omega
        rw [show byts s = s.data.toList from rfl, List.getElem?_eq_getElem h]
        rfl
      obtain ⟨b, hb⟩ : ∃ q, s.data.toList.getD i 0 = q := ⟨_, rfl⟩
      rw [hb] at hce hat
      have hNX : Hid (sumB ((byts s).take (i + 1)) = (23 * sumB ((byts s).take i) + b.toNat) % 9901) := by
        rw [Hid, List.take_add_one, hat, Option.toList_some, sumB_snoc]
      have hlt0 := sumB_lt ((byts s).take i)
      obtain ⟨x, hx⟩ : ∃ q, sumB ((byts s).take i) = q := ⟨_, rfl⟩
      rw [hx] at hNX hlt0 ⊢
      obtain ⟨y, hy⟩ : ∃ q, b.toNat = q := ⟨_, rfl⟩
      have hy2 : y < 256 := by rw [← hy]; exact b.toNat_lt
      rw [hy] at hNX hce
      clear hx hb hat hy
      go_wp2_with (fail)
      go_roundw
      case rel => exact ⟨i + 1, by omega, by go_num, by rw [hNX.out]; push_cast; rfl, trivial⟩
      case measure => simp only [intOf]; omega
    · obtain rfl : i = n := by omega
      have hlti : ¬ (i : Int) < i := by omega
      go_wp2_with (fail)
      go_ret
      refine ⟨?_, hb2⟩
      rw [List.take_of_length_le (by omega)]
      rfl
end
end Dr
end Go.Proofs.YtbgakdpbglpfaaaGreatDoor
