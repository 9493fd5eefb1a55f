/- This seat's arguments: words, numbers, queues; what the rows' list of laid tables asks of the witness. -/
import Derived.Test.YtfcfhiekkpflcaaDoorFrameG
import Derived.Test.YtfcfhiekkpflcaaDoorBase
import Derived.Test.YtfcfhiekkpflcaaDoorCards
import Derived.Test.YtfcfhiekkpflcaaDoorTie
import Derived.Carry
import Derived.ChangeMaps5
import Derived.LaidLaws
namespace Go.Proofs.YtfcfhiekkpflcaaDoor
open Go.ChangeShapes Go.WideShapes Go.ChangeAt Go.RowKit
theorem own : ownKnob Tryd.prog.godebug = none := by kernel_rfl
theorem laidOut : laidOutB Tryd.prog = true := by kernel_rfl
abbrev laidC : List (String × DataW Unit) := [("unicode/utf8.acceptRanges", Rows.laid_unicode_utf8_acceptRanges), ("unicode/utf8.first", Rows.laid_unicode_utf8_first)]
/-- a table of bytes laid into its variable -/
def layB (zs : List Nat) : Obj → Obj
  | .cells _ t frozen => .cells (zs.map fun z : Nat => Value.int .u8 (z : Int)).toArray t frozen
  | o => o
def accZ : List Nat := [128, 191, 160, 191, 128, 159, 144, 191, 128, 143] ++ List.replicate 22 0
/-- a world for the witness: the settled one, both tables as their initialisers lay them -/
noncomputable def laidWorld (os : Os) : World :=
  { World.holding Tryd.prog os ⟨#[], #[], []⟩ with heap := ((World.holding Tryd.prog os ⟨#[], #[], []⟩).heap.modify 2 (layB accZ)).modify 1 (layB Go.Pinned.utf8FirstZ) }
set_option maxRecDepth 100000 in
theorem laid_met (os : Os) (args : Array Value) : laidMet Tryd.prog laidC ((laidWorld os).forCall (fun _ _ => 0) ⟨#[], args, []⟩).memory := laidMet_of_run' 70 (by kernel_rfl) (by kernel_rfl)
section
variable {H : Type} {enc : TypeId × Value → H}
/-- what an argument reads behind the call -/
theorem back_of {t : TypeId} (hr : Tryd.prog.readableRec t = true) (ht : t < Tryd.prog.types.size) {W W' : World} {v : Value} {d : DataW H} {ps : List MemPlace} (h : DataW.Trod enc Tryd.prog W 0 (fun _ => true) true t v d ps) (hb : Below W.heap.size W W') (hlt : ∀ p ∈ ps, p.block < W.heap.size)
    (sp : Nat → Bool) (hsp : ∀ p ∈ ps, sp p.block = true) : DataW.Trod enc Tryd.prog W' 0 sp true t v d ps :=
  WideElems.Trod_stays laidOut hr ht h (fun x hx => hb.same (hlt x hx)) hsp
set_option maxRecDepth 100000 in
/-- an argument that is a queue -/
theorem open_queue {W : World} {base : Nat} {v : Value} {d : DataW H} {ps : List MemPlace} (hval : Value.okWide Tryd.prog W .any base 45 v) (h : DataW.Trod enc Tryd.prog W 0 (fun _ => true) true 45 v d ps) :
    ∃ a b : Nat, v = .agg #[.int .u8 a, .int .u16 b] ∧ a ≤ 255 ∧ b ≤ 65535 := by
  obtain ⟨cs, rfl, hsz⟩ := okWide_struct Tryd.underlying45 hval
  have hC : Tryd.prog.cellsOf 45 = 2 := by kernel_rfl
  have hC1 : Tryd.prog.cellsOf 5 = 1 := by kernel_rfl
  have hC2 : Tryd.prog.cellsOf 43 = 1 := by kernel_rfl
  rw [hC] at hsz
  obtain ⟨v0, v1, rfl⟩ : ∃ v0 v1, cs = #[v0, v1] := by
    obtain ⟨l⟩ := cs
    match l, hsz with
    | [a, b], _ => exact ⟨a, b, rfl⟩
  obtain ⟨fuel, hf⟩ := h
  obtain ⟨y0, y1, k, hx, _, h0, h1⟩ := trod_struct2 Tryd.underlying45 hf
  simp only [hC1, hC2] at h0 h1
  obtain ⟨m, hm, _, hw⟩ := DataW.trod_int Tryd.underlying5 h0
  obtain ⟨m2, hm2, _, hw2⟩ := DataW.trod_int Tryd.underlying43 h1
  have hb : 0 ≤ m ∧ m ≤ 255 := by simpa [Lit.wf, IntKind.min, IntKind.max, IntKind.signed, IntKind.bits] using hw
  have hb2 : 0 ≤ m2 ∧ m2 ≤ 65535 := by simpa [Lit.wf, IntKind.min, IntKind.max, IntKind.signed, IntKind.bits] using hw2
  refine ⟨m.toNat, m2.toNat, ?_, by omega, by omega⟩
  obtain rfl : v0 = .int .u8 m := by simpa [Value.cells] using hm
  obtain rfl : v1 = .int .u16 m2 := by simpa [Value.cells] using hm2
  rw [show ((m.toNat : Nat) : Int) = m by omega, show ((m2.toNat : Nat) : Int) = m2 by omega]
end
end Go.Proofs.YtfcfhiekkpflcaaDoor
