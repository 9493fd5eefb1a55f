/- An argument that is an array of eight bytes. -/
import Derived.Test.YtkbfmogjhjdjmaaDoorFrameP
import Derived.Test.YtkbfmogjhjdjmaaDoorDuST
import Derived.WideKeyArr2
namespace Go.Proofs.YtkbfmogjhjdjmaaDoor
open Go.ChangeShapes Go.WideShapes Go.ChangeAt Go.RowKit Go.WideMaps
namespace Du
section
variable {H : Type} {enc : TypeId × Value → H}
theorem arrE : ArrKey Tryd.prog 22 5 8 := ⟨Tryd.underlying22, by kernel_rfl, by kernel_rfl, by kernel_rfl⟩
theorem byte_one {W : World} {n : Nat} {v : Value} {y : DataW H × List MemPlace} (h : DataW.trod enc Tryd.prog W 0 (fun _ => true) true n 5 [v] = some y) : ∃ a : Nat, a < 256 ∧ v = .int .u8 (a : Int) := by
  obtain ⟨m, hm, _, hw⟩ := DataW.trod_int Tryd.underlying5 h
  have hb : 0 ≤ m ∧ m ≤ 255 := by simpa [Lit.wf, IntKind.min, IntKind.max, IntKind.signed, IntKind.bits] using hw
  obtain rfl : v = .int .u8 m := by simpa using hm
  exact ⟨m.toNat, by omega, by rw [show ((m.toNat : Nat) : Int) = m by omega]⟩
set_option maxRecDepth 100000 in
theorem open_eight {W : World} {base : Nat} {v : Value} {d : DataW H} {ps : List MemPlace} (hval : Value.okWide Tryd.prog W .any base 22 v) (h : DataW.Trod enc Tryd.prog W 0 (fun _ => true) true 22 v d ps) :
    ∃ bs : List Nat, v = .agg (bytesV bs) ∧ bs.length = 8 ∧ ∀ b ∈ bs, b < 256 := by
  obtain ⟨cs, rfl, hsz⟩ := okWide_arr arrE hval
  have hC1 : Tryd.prog.cellsOf 5 = 1 := by kernel_rfl
  obtain ⟨v0, v1, v2, v3, v4, v5, v6, v7, rfl⟩ : ∃ v0 v1 v2 v3 v4 v5 v6 v7, cs = #[v0, v1, v2, v3, v4, v5, v6, v7] := by
    obtain ⟨l⟩ := cs
    match l, hsz with
    | [v0, v1, v2, v3, v4, v5, v6, v7], _ => exact ⟨v0, v1, v2, v3, v4, v5, v6, v7, rfl⟩
  obtain ⟨fuel, hf⟩ := h
  obtain ⟨zs, m, _, _, _, hzl, hz⟩ := DataW.trod_array Tryd.underlying22 hf
  rw [hC1] at hz
  have h0 := hz 0 (by omega)
  have h1 := hz 1 (by omega)
  have h2 := hz 2 (by omega)
  have h3 := hz 3 (by omega)
  have h4 := hz 4 (by omega)
  have h5 := hz 5 (by omega)
  have h6 := hz 6 (by omega)
  have h7 := hz 7 (by omega)
  rw [List.getElem?_eq_getElem (by omega)] at h0 h1 h2 h3 h4 h5 h6 h7
  obtain ⟨a0, q0, e0⟩ := byte_one (v := v0) h0
  obtain ⟨a1, q1, e1⟩ := byte_one (v := v1) h1
  obtain ⟨a2, q2, e2⟩ := byte_one (v := v2) h2
  obtain ⟨a3, q3, e3⟩ := byte_one (v := v3) h3
  obtain ⟨a4, q4, e4⟩ := byte_one (v := v4) h4
  obtain ⟨a5, q5, e5⟩ := byte_one (v := v5) h5
  obtain ⟨a6, q6, e6⟩ := byte_one (v := v6) h6
  obtain ⟨a7, q7, e7⟩ := byte_one (v := v7) h7
  refine ⟨[a0, a1, a2, a3, a4, a5, a6, a7], by rw [e0, e1, e2, e3, e4, e5, e6, e7]; rfl, rfl, fun b hb => ?_⟩
  simp only [List.mem_cons, List.not_mem_nil, or_false] at hb
  rcases hb with rfl | rfl | rfl | rfl | rfl | rfl | rfl | rfl <;> assumption
end
end Du
end Go.Proofs.YtkbfmogjhjdjmaaDoor
