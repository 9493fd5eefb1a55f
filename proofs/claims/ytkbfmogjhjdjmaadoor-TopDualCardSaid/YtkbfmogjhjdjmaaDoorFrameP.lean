/- What the rows' lists of laid tables give, and worlds for the witnesses. -/
import Derived.Test.YtkbfmogjhjdjmaaDoorClAll
import Derived.Test.YtkbfmogjhjdjmaaDoorFrameG
import Derived.Test.YtkbfmogjhjdjmaaDoorBoxK
import Derived.Test.YtkbfmogjhjdjmaaDoorCards
import Derived.Test.YtkbfmogjhjdjmaaDoorTie
import Derived.Carry
import Derived.ChangeMaps5
import Derived.LaidLaws
import Derived.Lib.LaidTab
namespace Go.Proofs.YtkbfmogjhjdjmaaDoor
open Go.ChangeShapes Go.WideShapes Go.ChangeAt Go.RowKit
theorem tab_second {P : Program} {W : World} {a : String × DataW Unit} {name : String} {k : IntKind} {zs : List Int} {rest : List (String × DataW Unit)} {g : Nat} {t e : TypeId} {n : Nat}
    (hg : P.globalNamed name = some g) (hty : (P.globals[g]?).map (·.type) = some t) (ht : P.underlying t = some (.array n e)) (he : P.underlying e = some (.int k)) (hce : P.cellsOf e = 1) (hct : P.cellsOf t = n)
    (h : laidMet P (a :: (name, Lib.tabData k zs) :: rest) W) : Lib.TabIs P W name k zs := by
  obtain ⟨ps, ⟨_, _, _, _, _, q0, _, _, _, _, hrest, _⟩, _⟩ := h
  obtain ⟨g', t', cs, fuel, p, q, hg', ht', hvar, hd, _, _⟩ := hrest
  obtain rfl := Option.some.inj (hg.symm.trans hg')
  obtain rfl := Option.some.inj (hty.symm.trans ht')
  unfold Lib.TabIs
  rw [hvar, ← Lib.cells_of_tab ht he hce hct hd]
theorem own : ownKnob Tryd.prog.godebug = none := by kernel_rfl
theorem gTab64 : Tryd.prog.globalNamed "math/bits.deBruijn64tab" = some 2 := by kernel_rfl
theorem tab_of {W : World} {rest : List (String × DataW Unit)} (h : laidMet Tryd.prog (("math/bits.deBruijn32tab", Rows.laid_math_bits_deBruijn32tab) :: ("math/bits.deBruijn64tab", Rows.laid_math_bits_deBruijn64tab) :: rest) W) : Cl.Tab W := by
  have hT : Lib.TabIs Tryd.prog W "math/bits.deBruijn64tab" .u8 (List.map (fun z : Nat => (z : Int)) Lib.deBruijn64tab) :=
    tab_second (rest := rest) (t := 149) gTab64 (by kernel_rfl) Tryd.underlying149 Tryd.underlying5 (by kernel_rfl) (by kernel_rfl) h
  have hl : (List.map (fun z : Nat => (z : Int)) Lib.deBruijn64tab).length = 64 := by decide
  have hc : TabAt 2 Lib.deBruijn64tab W := fun j hj => by
    have h64 : Lib.deBruijn64tab.length = 64 := by decide
    rw [hT.cell gTab64 j (by rw [hl]; omega)]
    simp [List.getD, hj]
  exact ⟨cell_lt (hc 0 (by decide)), hc⟩
abbrev laid2 : List (String × DataW Unit) := [("math/bits.deBruijn32tab", Rows.laid_math_bits_deBruijn32tab), ("math/bits.deBruijn64tab", Rows.laid_math_bits_deBruijn64tab)]
theorem tab2 {W : World} (h : laidMetH Tryd.prog laid2 W) : Cl.Tab W := tab_of (rest := []) h
/-- a table of bytes laid into its variable -/
def layB (zs : List Nat) : Obj → Obj
  | .cells _ t frozen => .cells (zs.map fun z : Nat => Value.int .u8 (z : Int)).toArray t frozen
  | o => o
/-- a world for the witness: the settled one, all tables as their initialisers lay them -/
noncomputable def laidWorld (os : Os) : World :=
  { World.holding Tryd.prog os ⟨#[], #[], []⟩ with heap := ((World.holding Tryd.prog os ⟨#[], #[], []⟩).heap.modify 1 (layB Lib.deBruijn32tab)).modify 2 (layB Lib.deBruijn64tab) }
set_option maxRecDepth 100000 in
theorem laid2_met (os : Os) (args : Array Value) : laidMet Tryd.prog laid2 ((laidWorld os).forCall (fun _ _ => 0) ⟨#[], args, []⟩).memory := laidMet_of_run' 70 (by kernel_rfl) (by kernel_rfl)
section
variable {H : Type} {enc : TypeId × Value → H}
/-- what an argument reads behind the call -/
theorem back_of {t : TypeId} (hr : Tryd.prog.readableRec t = true) (ht : t < Tryd.prog.types.size) {W W' : World} {v : Value} {d : DataW H} {ps : List MemPlace} (h : DataW.Trod enc Tryd.prog W 0 (fun _ => true) true t v d ps) (hb : Below W.heap.size W W') (hlt : ∀ p ∈ ps, p.block < W.heap.size)
    (sp : Nat → Bool) (hsp : ∀ p ∈ ps, sp p.block = true) : DataW.Trod enc Tryd.prog W' 0 sp true t v d ps :=
  WideElems.Trod_stays laidOut hr ht h (fun x hx => hb.same (hlt x hx)) hsp
end
end Go.Proofs.YtkbfmogjhjdjmaaDoor
