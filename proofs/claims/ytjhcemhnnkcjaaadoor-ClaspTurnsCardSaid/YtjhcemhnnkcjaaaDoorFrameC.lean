/- What the rows' list of laid tables gives, and a world for the witness. -/
import Derived.Test.YtjhcemhnnkcjaaaDoorRing
import Derived.Test.YtjhcemhnnkcjaaaDoorFrame
import Derived.Test.YtjhcemhnnkcjaaaDoorCards
import Derived.Test.YtjhcemhnnkcjaaaDoorTie
import Derived.WalkKit
import Derived.ProofKit
import Derived.OpenShut
import Derived.Deep.DeepHandedRow
import Derived.Lib.LaidTab
namespace Go.Proofs.YtjhcemhnnkcjaaaDoor
open Go.ChangeShapes Go.WideShapes Go.ChangeAt Go.RowKit
theorem tab_second {P : Program} {W : World} {a : String × DataW Unit} {name : String} {k : IntKind} {zs : List Int} {rest : List (String × DataW Unit)} {g : Nat} {t e : TypeId} {n : Nat}
    (hg : P.globalNamed name = some g) (hty : (P.globals[g]?).map (·.type) = some t) (ht : P.underlying t = some (.array n e)) (he : P.underlying e = some (.int k)) (hce : P.cellsOf e = 1) (hct : P.cellsOf t = n)
    (h : laidMet P (a :: (name, Lib.tabData k zs) :: rest) W) : Lib.TabIs P W name k zs := by
  obtain ⟨ps, ⟨_, _, _, _, _, q0, _, _, _, _, hrest, _⟩, _⟩ := h
  obtain ⟨g', t', cs, fuel, p, q, hg', ht', hvar, hd, _, _⟩ := hrest
  obtain rfl := Option.some.inj (hg.symm.trans hg')
  obtain rfl := Option.some.inj (hty.symm.trans ht')
  unfold Lib.TabIs
  rw [hvar, ← Lib.cells_of_tab ht he hce hct hd]
theorem own : ownKnob Tryd.prog.godebug = none := by kernel_rfl
theorem gTab64 : Tryd.prog.globalNamed "math/bits.deBruijn64tab" = some 1 := by kernel_rfl
abbrev laidC : List (String × DataW Unit) := [("math/bits.deBruijn32tab", Rows.laid_math_bits_deBruijn32tab), ("math/bits.deBruijn64tab", Rows.laid_math_bits_deBruijn64tab)]
theorem tab_of_laid {W : World} (h : laidMetH Tryd.prog laidC W) : Tab W := by
  have hT : Lib.TabIs Tryd.prog W "math/bits.deBruijn64tab" .u8 (List.map (fun z : Nat => (z : Int)) Lib.deBruijn64tab) :=
    tab_second (rest := []) (t := 104) gTab64 (by kernel_rfl) Tryd.underlying104 Tryd.underlying5 (by kernel_rfl) (by kernel_rfl) h
  have hl : (List.map (fun z : Nat => (z : Int)) Lib.deBruijn64tab).length = 64 := by decide
  have hc : TabAt 1 Lib.deBruijn64tab W := fun j hj => by
    have h64 : Lib.deBruijn64tab.length = 64 := by decide
    rw [hT.cell gTab64 j (by rw [hl]; omega)]
    simp [List.getD, hj]
  exact ⟨cell_lt (hc 0 (by decide)), hc⟩
/-- a table laid into its variable -/
def layTab (zs : List Nat) : Obj → Obj
  | .cells _ t frozen => .cells (zs.map fun z : Nat => Value.int .u8 (z : Int)).toArray t frozen
  | o => o
/-- a world for the witness: the settled one, both tables as their initialisers lay them -/
noncomputable def laidWorld (os : Os) : World :=
  { World.holding Tryd.prog os ⟨#[], #[], []⟩ with heap := ((World.holding Tryd.prog os ⟨#[], #[], []⟩).heap.modify 0 (layTab Lib.deBruijn32tab)).modify 1 (layTab Lib.deBruijn64tab) }
end Go.Proofs.YtjhcemhnnkcjaaaDoor
