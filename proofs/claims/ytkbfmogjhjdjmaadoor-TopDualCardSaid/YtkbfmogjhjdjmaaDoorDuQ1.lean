/- Plain: TopDual: pieces, tried: part 1. (Printed by gendual.py.) -/
import Derived.Test.YtkbfmogjhjdjmaaDoorDuPB
namespace Go.Proofs.YtkbfmogjhjdjmaaDoor
namespace Du
set_option maxRecDepth 100000 in
theorem a5_ss : allP dualB 6 5 [] = true := by decide +kernel
set_option maxRecDepth 100000 in
theorem a5_so : allP dualB 6 4 [(8, 0)] = true := by decide +kernel
set_option maxRecDepth 100000 in
theorem a5_si : allP dualB 6 4 [(7, 4)] = true := by decide +kernel
set_option maxRecDepth 100000 in
theorem a5_os : allP dualB 6 4 [(4, 0)] = true := by decide +kernel
set_option maxRecDepth 100000 in
theorem a5_oo : allP dualB 6 3 [(8, 0), (4, 0)] = true := by decide +kernel
set_option maxRecDepth 100000 in
theorem a5_oi : allP dualB 6 3 [(7, 4), (4, 0)] = true := by decide +kernel
end Du
end Go.Proofs.YtkbfmogjhjdjmaaDoor
