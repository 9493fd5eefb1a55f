/- An argument that is a pair of bytes. -/
import Derived.Test.YtjhcemhnnkcjaaaDoorFrameC
import Derived.Test.YtjhcemhnnkcjaaaDoorTuK
import Derived.WideKeyArr2
namespace Go.Proofs.YtjhcemhnnkcjaaaDoor
open Go.ChangeShapes Go.WideShapes Go.ChangeAt Go.RowKit Go.WideMaps
namespace Tu
section
variable {H : Type} {enc : TypeId × Value → H}
/-- what an argument reads behind the call -/
theorem back_of {t : TypeId} (hr : Tryd.prog.readableRec t = true) (ht : t < Tryd.prog.types.size) {W W' : World} {v : Value} {d : DataW H} {ps : List MemPlace} (h : DataW.Trod enc Tryd.prog W 0 (fun _ => true) true t v d ps) (hb : Below W.heap.size W W') (hlt : ∀ p ∈ ps, p.block < W.heap.size)
    (sp : Nat → Bool) (hsp : ∀ p ∈ ps, sp p.block = true) : DataW.Trod enc Tryd.prog W' 0 sp true t v d ps :=
  WideElems.Trod_stays laidOutT hr ht h (fun x hx => hb.same (hlt x hx)) hsp
theorem arrB : ArrKey Tryd.prog 55 5 2 := ⟨Tryd.underlying55, by kernel_rfl, by kernel_rfl, by kernel_rfl⟩
theorem byte_one {W : World} {n : Nat} {v : Value} {y : DataW H × List MemPlace} (h : DataW.trod enc Tryd.prog W 0 (fun _ => true) true n 5 [v] = some y) : ∃ a : Nat, a < 256 ∧ v = .int .u8 (a : Int) := by
  obtain ⟨m, hm, _, hw⟩ := DataW.trod_int Tryd.underlying5 h
  have hb : 0 ≤ m ∧ m ≤ 255 := by simpa [Lit.wf, IntKind.min, IntKind.max, IntKind.signed, IntKind.bits] using hw
  obtain rfl : v = .int .u8 m := by simpa using hm
  exact ⟨m.toNat, by omega, by rw [show ((m.toNat : Nat) : Int) = m by omega]⟩
set_option maxRecDepth 100000 in
/-- an argument that is a pair of bytes -/
theorem open_two {W : World} {base : Nat} {v : Value} {d : DataW H} {ps : List MemPlace} (hval : Value.okWide Tryd.prog W .any base 55 v) (h : DataW.Trod enc Tryd.prog W 0 (fun _ => true) true 55 v d ps) :
    ∃ a b : Nat, v = .agg #[.int .u8 (a : Int), .int .u8 (b : Int)] ∧ a < 256 ∧ b < 256 := by
  obtain ⟨cs, rfl, hsz⟩ := okWide_arr arrB hval
  have hC1 : Tryd.prog.cellsOf 5 = 1 := by kernel_rfl
  obtain ⟨v0, v1, rfl⟩ : ∃ v0 v1, cs = #[v0, v1] := by
    obtain ⟨l⟩ := cs
    match l, hsz with
    | [a, b], _ => exact ⟨a, b, rfl⟩
  obtain ⟨fuel, hf⟩ := h
  obtain ⟨zs, m, _, _, _, hzl, hz⟩ := DataW.trod_array Tryd.underlying55 hf
  rw [hC1] at hz
  have h0 := hz 0 (by omega)
  have h1 := hz 1 (by omega)
  rw [List.getElem?_eq_getElem (by omega)] at h0 h1
  obtain ⟨a, ha, e0⟩ := byte_one (v := v0) h0
  obtain ⟨b, hb, e1⟩ := byte_one (v := v1) h1
  exact ⟨a, b, by rw [e0, e1], ha, hb⟩
end
end Tu
end Go.Proofs.YtjhcemhnnkcjaaaDoor
