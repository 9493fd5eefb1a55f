/- A season that came in: opened. -/
import Derived.Test.YtbgakdpbglpfaaaGreatDoorDrFr
import Derived.Test.YtbgakdpbglpfaaaGreatDoorDuE
import Derived.Deep.Slices
namespace Go.Proofs.YtbgakdpbglpfaaaGreatDoor
open Go.ChangeShapes Go.WideShapes Go.ChangeAt Go.RowKit
theorem nat_uint8 {x : Int} (h : (Lit.int .u8 x).wf = true) : ∃ n : Nat, n < 256 ∧ x = (n : Int) := by
  have hb : 0 ≤ x ∧ x ≤ 255 := by
    simp [Lit.wf, IntKind.min, IntKind.max, IntKind.signed, IntKind.bits] at h
    omega
  exact ⟨x.toNat, by omega, (Int.toNat_of_nonneg hb.1).symm⟩
theorem nat_uint16 {x : Int} (h : (Lit.int .u16 x).wf = true) : ∃ n : Nat, n < 65536 ∧ x = (n : Int) := by
  have hb : 0 ≤ x ∧ x ≤ 65535 := by
    simp [Lit.wf, IntKind.min, IntKind.max, IntKind.signed, IntKind.bits] at h
    omega
  exact ⟨x.toNat, by omega, (Int.toNat_of_nonneg hb.1).symm⟩
section
variable {H : Type} {enc : TypeId × Value → H}
instance : Inhabited Dr.Quad := ⟨⟨0, 0, 0, 0⟩⟩
theorem open_u8 {w : World} {base : Nat} {sp : Nat → Bool} {hd : Bool} {fuel : Nat} {cs : List Value} {x : DataW H × List MemPlace} (h : DataW.trod enc Tryz.prog w base sp hd fuel 5 cs = some x) : ∃ m : Nat, cs = [.int .u8 (m : Int)] ∧ m < 256 := by
  obtain ⟨m, rfl, _, hw⟩ := DataW.trod_int Tryz.underlying5 h
  have hb : 0 ≤ m ∧ m ≤ 255 := by
    simp [Lit.wf, IntKind.min, IntKind.max, IntKind.signed, IntKind.bits] at hw
    omega
  exact ⟨m.toNat, by rw [Int.toNat_of_nonneg hb.1], by omega⟩
set_option maxRecDepth 100000 in
theorem open_quad {w : World} {base : Nat} {sp : Nat → Bool} {hd : Bool} {fuel : Nat} {cs : List Value} {x : DataW H × List MemPlace} (h : DataW.trod enc Tryz.prog w base sp hd fuel 114 cs = some x) : ∃ q : Dr.Quad, cs = q.vals ∧ q.Ok := by
  obtain ⟨xs, m, _, _, hl, hx, he⟩ := DataW.trod_array Tryz.underlying114 h
  rw [show Tryz.prog.cellsOf 114 = 4 by kernel_rfl] at hl
  rw [show Tryz.prog.cellsOf 5 = 1 by kernel_rfl] at he
  have each : ∀ i, i < 4 → ∃ m : Nat, (cs.drop (i * 1)).take 1 = [.int .u8 (m : Int)] ∧ m < 256 := fun i hi => by
    have := he i hi
    rw [List.getElem?_eq_getElem (by omega)] at this
    exact open_u8 this
  match cs, hl with
  | [a, b, c, d], _ =>
    obtain ⟨m0, h0, l0⟩ := each 0 (by omega)
    obtain ⟨m1, h1, l1⟩ := each 1 (by omega)
    obtain ⟨m2, h2, l2⟩ := each 2 (by omega)
    obtain ⟨m3, h3, l3⟩ := each 3 (by omega)
    simp at h0 h1 h2 h3
    exact ⟨⟨m0, m1, m2, m3⟩, by rw [h0, h1, h2, h3]; rfl, l0, l1, l2, l3⟩
set_option maxRecDepth 100000 in
theorem open_season {W : World} {base : Nat} {v : Value} {d : DataW H} {ps : List MemPlace} (hval : Value.okWide Tryz.prog W .any base 51 v) (h : DataW.Trod enc Tryz.prog W 0 (fun _ => true) true 51 v d ps) :
    ∃ (P : Option Addr) (n c : Nat) (qs : List Dr.Quad), v = .slice P n c ∧ n ≤ maxLen ∧ Dr.RQuads W W.heap.size P n qs := by
  obtain ⟨P0, n0, c0, rfl⟩ := okWide_slice Tryz.underlying51 hval
  obtain ⟨fuel, hf⟩ := h
  rcases DataW.trod_slice Tryz.underlying51 hf with ⟨hcs, _⟩ | ⟨a, len, cap, elems, rest, n, _, hcs, _, hb, hl, hm, hlen, hel, _, _⟩
  · obtain ⟨rfl, rfl, rfl⟩ : P0 = none ∧ n0 = 0 ∧ c0 = 0 := by simpa [Value.cells] using hcs
    exact ⟨none, 0, 0, [], rfl, by decide, rfl, (fun q hq => by cases hq), fun hn => by omega⟩
  · obtain ⟨rfl, rfl, rfl⟩ : P0 = some a ∧ n0 = len ∧ c0 = cap := by simpa [Value.cells] using hcs
    rw [show Tryz.prog.cellsOf 114 = 4 by kernel_rfl] at hel
    have each : ∀ i, i < n0 → ∃ q : Dr.Quad, q.Ok ∧ ∀ j v, q.vals[j]? = some v → W.cell? ((a.add (i * 4)).add j) = some v := fun i hi => by
      have he := hel i hi
      rw [List.getElem?_eq_getElem (by omega), Option.bind_eq_some_iff] at he
      obtain ⟨cs, hc, hy⟩ := he
      obtain ⟨q, rfl, hq⟩ := open_quad hy
      refine ⟨q, hq, fun j v hj => ?_⟩
      have hj4 : j < 4 := (List.getElem?_eq_some_iff.1 hj).1
      rw [(World.cells?_some hc).2.2 j hj4]
      exact hj
    obtain ⟨f, hf⟩ := Go.Deep.choose_lt each
    refine ⟨some a, n0, c0, (List.range n0).map f, rfl, Nat.le_trans hl hm, by simp, fun q hq => ?_, fun hn => ?_⟩
    · obtain ⟨i, hi, rfl⟩ := List.mem_map.1 hq
      exact (hf i (List.mem_range.1 hi)).1
    · have h0 := (hf 0 hn).2 0 _ rfl
      rw [Nat.zero_mul, show (a.add 0) = a from rfl, show (a.add 0) = a from rfl] at h0
      have hs : a.spot = none := by
        unfold World.cell? at h0
        cases hsp : a.spot with
        | none => rfl
        | some k =>
          exfalso
          simp [hsp] at h0
          split at h0 <;> simp_all
      obtain ⟨b, o, s⟩ := a
      simp only at hs
      subst hs
      refine ⟨b, o, rfl, cell_lt h0, fun i q hi j v hj => ?_⟩
      have hi2 : i < n0 := by
        have := (List.getElem?_eq_some_iff.1 hi).1
        simpa using this
      rw [List.getElem?_map, List.getElem?_range hi2, Option.map_some] at hi
      injection hi with hi
      subst hi
      have := (hf i hi2).2 j v hj
      rw [Addr.add_mid, Addr.add_mid] at this
      exact this
end
end Go.Proofs.YtbgakdpbglpfaaaGreatDoor
