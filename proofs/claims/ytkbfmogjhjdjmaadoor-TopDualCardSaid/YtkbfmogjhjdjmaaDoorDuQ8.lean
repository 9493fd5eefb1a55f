/- Plain: TopDual: pieces, tried: part 8. (Printed by gendual.py.) -/
import Derived.Test.YtkbfmogjhjdjmaaDoorDuPB
namespace Go.Proofs.YtkbfmogjhjdjmaaDoor
namespace Du
set_option maxRecDepth 100000 in
theorem a7_is : allP dualB 6 6 [(5, 4)] = true := by decide +kernel
set_option maxRecDepth 100000 in
theorem a7_ios : allP dualB 5 5 [(8, 0), (5, 4)] = true := by decide +kernel
set_option maxRecDepth 100000 in
theorem a7_ioo : allP dualB 5 4 [(12, 4), (8, 0), (5, 4)] = true := by decide +kernel
set_option maxRecDepth 100000 in
theorem a7_ioi : allP dualB 5 4 [(8, 5), (8, 0), (5, 4)] = true := by decide +kernel
set_option maxRecDepth 100000 in
theorem a7_iis : allP dualB 5 5 [(7, 4), (5, 4)] = true := by decide +kernel
set_option maxRecDepth 100000 in
theorem a7_iio : allP dualB 5 4 [(12, 4), (7, 4), (5, 4)] = true := by decide +kernel
end Du
end Go.Proofs.YtkbfmogjhjdjmaaDoor
