/- Plain: TopDual: pieces, tried: part 9. (Printed by gendual.py.) -/
import Derived.Test.YtkbfmogjhjdjmaaDoorDuPB
namespace Go.Proofs.YtkbfmogjhjdjmaaDoor
namespace Du
set_option maxRecDepth 100000 in
theorem a7_iii : allP dualB 5 4 [(8, 5), (7, 4), (5, 4)] = true := by decide +kernel
set_option maxRecDepth 100000 in
theorem a8_oo : allP dualB 6 6 [(8, 0), (4, 0)] = true := by decide +kernel
set_option maxRecDepth 100000 in
theorem a8_oi : allP dualB 6 6 [(7, 4), (4, 0)] = true := by decide +kernel
set_option maxRecDepth 100000 in
theorem a8_io : allP dualB 6 6 [(8, 0), (5, 4)] = true := by decide +kernel
set_option maxRecDepth 100000 in
theorem a8_ii : allP dualB 6 6 [(7, 4), (5, 4)] = true := by decide +kernel
end Du
end Go.Proofs.YtkbfmogjhjdjmaaDoor
