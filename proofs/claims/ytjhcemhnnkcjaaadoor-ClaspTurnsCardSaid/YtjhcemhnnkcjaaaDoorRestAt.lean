/- A whole rest, read at once out of its variable: as a rule for the walk. -/
import Derived.Test.YtjhcemhnnkcjaaaDoorProg
import Derived.Test.YtjhcemhnnkcjaaaDoorLaid
namespace Go.Proofs.YtjhcemhnnkcjaaaDoor
open Go.RowKit
theorem execOp_load_rest (ρ : Operand → Value) (dst : Option Tmp) (x : Operand) (ty : TypeId) (pos : String) (after : Array Edge) (guard : Option (Nat × Bool)) :
    execOp ρ { dst, op := .load 68 x, type := ty, pos, after, guard } = (do pure (.value (← loadAgg 68 (ρ x)))) := rfl
theorem run_load_rest (w : World) (g : Nat) : (loadAgg 68 (.pointer (some ⟨g, 0, none⟩))).run Tryd.prog w = match aggAt 68 17 w g with | some cs => .ok (.agg cs) w | none => aggStuck Tryd.prog 68 w g :=
  run_loadAgg Tryd.underlying68 rfl info_rest w g
theorem restAt_of {w : World} {g n : Nat} {xs : List Int} (h : Blk w g 68 (restC n (pad xs))) : aggAt 68 17 w g = some (restC n (pad xs)) :=
  aggAt_of h (by rw [restC_size, pad_length])
end Go.Proofs.YtjhcemhnnkcjaaaDoor
