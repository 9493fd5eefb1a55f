/- Plain: TopDual: pieces, tried: part 6. (Printed by gendual.py.) -/
import Derived.Test.YtkbfmogjhjdjmaaDoorDuPB
namespace Go.Proofs.YtkbfmogjhjdjmaaDoor
namespace Du
set_option maxRecDepth 100000 in
theorem a6_ioi : allP dualB 5 3 [(8, 5), (8, 0), (5, 4)] = true := by decide +kernel
set_option maxRecDepth 100000 in
theorem a6_iis : allP dualB 5 4 [(7, 4), (5, 4)] = true := by decide +kernel
set_option maxRecDepth 100000 in
theorem a6_iio : allP dualB 5 3 [(12, 4), (7, 4), (5, 4)] = true := by decide +kernel
set_option maxRecDepth 100000 in
theorem a6_iii : allP dualB 5 3 [(8, 5), (7, 4), (5, 4)] = true := by decide +kernel
set_option maxRecDepth 100000 in
theorem a7_s : allP dualB 7 7 [] = true := by decide +kernel
set_option maxRecDepth 100000 in
theorem a7_os : allP dualB 6 6 [(4, 0)] = true := by decide +kernel
end Du
end Go.Proofs.YtkbfmogjhjdjmaaDoor
