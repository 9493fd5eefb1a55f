/- Plain: TopDual: pieces, tried: part 4. (Printed by gendual.py.) -/
import Derived.Test.YtkbfmogjhjdjmaaDoorDuPB
namespace Go.Proofs.YtkbfmogjhjdjmaaDoor
namespace Du
set_option maxRecDepth 100000 in
theorem a6_osi : allP dualB 5 4 [(8, 5), (4, 0)] = true := by decide +kernel
set_option maxRecDepth 100000 in
theorem a6_oos : allP dualB 5 4 [(8, 0), (4, 0)] = true := by decide +kernel
set_option maxRecDepth 100000 in
theorem a6_ooo : allP dualB 5 3 [(12, 4), (8, 0), (4, 0)] = true := by decide +kernel
set_option maxRecDepth 100000 in
theorem a6_ooi : allP dualB 5 3 [(8, 5), (8, 0), (4, 0)] = true := by decide +kernel
set_option maxRecDepth 100000 in
theorem a6_ois : allP dualB 5 4 [(7, 4), (4, 0)] = true := by decide +kernel
set_option maxRecDepth 100000 in
theorem a6_oio : allP dualB 5 3 [(12, 4), (7, 4), (4, 0)] = true := by decide +kernel
end Du
end Go.Proofs.YtkbfmogjhjdjmaaDoor
