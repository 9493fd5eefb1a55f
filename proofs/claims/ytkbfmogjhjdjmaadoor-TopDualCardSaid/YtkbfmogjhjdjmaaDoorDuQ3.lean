/- Plain: TopDual: pieces, tried: part 3. (Printed by gendual.py.) -/
import Derived.Test.YtkbfmogjhjdjmaaDoorDuPB
namespace Go.Proofs.YtkbfmogjhjdjmaaDoor
namespace Du
set_option maxRecDepth 100000 in
theorem a6_soi : allP dualB 5 4 [(8, 5), (8, 0)] = true := by decide +kernel
set_option maxRecDepth 100000 in
theorem a6_sis : allP dualB 5 5 [(7, 4)] = true := by decide +kernel
set_option maxRecDepth 100000 in
theorem a6_sio : allP dualB 5 4 [(12, 4), (7, 4)] = true := by decide +kernel
set_option maxRecDepth 100000 in
theorem a6_sii : allP dualB 5 4 [(8, 5), (7, 4)] = true := by decide +kernel
set_option maxRecDepth 100000 in
theorem a6_oss : allP dualB 5 5 [(4, 0)] = true := by decide +kernel
set_option maxRecDepth 100000 in
theorem a6_oso : allP dualB 5 4 [(12, 4), (4, 0)] = true := by decide +kernel
end Du
end Go.Proofs.YtkbfmogjhjdjmaaDoor
