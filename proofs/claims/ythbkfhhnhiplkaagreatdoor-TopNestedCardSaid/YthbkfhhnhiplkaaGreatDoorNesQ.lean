/- Plain: TopNested, all good orders of 6 pairs are tried. -/
import Derived.Test.YthbkfhhnhiplkaaGreatDoorNesP
namespace Go.Proofs.YthbkfhhnhiplkaaGreatDoor
namespace Ns
set_option maxRecDepth 100000 in
theorem nest_6 : nestAll 6 = true := by decide +kernel
end Ns
end Go.Proofs.YthbkfhhnhiplkaaGreatDoor
