/- Plain: TopDual: pieces, tried: part 7. (Printed by gendual.py.) -/
import Derived.Test.YtkbfmogjhjdjmaaDoorDuPB
namespace Go.Proofs.YtkbfmogjhjdjmaaDoor
namespace Du
set_option maxRecDepth 100000 in
theorem a7_oos : allP dualB 5 5 [(8, 0), (4, 0)] = true := by decide +kernel
set_option maxRecDepth 100000 in
theorem a7_ooo : allP dualB 5 4 [(12, 4), (8, 0), (4, 0)] = true := by decide +kernel
set_option maxRecDepth 100000 in
theorem a7_ooi : allP dualB 5 4 [(8, 5), (8, 0), (4, 0)] = true := by decide +kernel
set_option maxRecDepth 100000 in
theorem a7_ois : allP dualB 5 5 [(7, 4), (4, 0)] = true := by decide +kernel
set_option maxRecDepth 100000 in
theorem a7_oio : allP dualB 5 4 [(12, 4), (7, 4), (4, 0)] = true := by decide +kernel
set_option maxRecDepth 100000 in
theorem a7_oii : allP dualB 5 4 [(8, 5), (7, 4), (4, 0)] = true := by decide +kernel
end Du
end Go.Proofs.YtkbfmogjhjdjmaaDoor
