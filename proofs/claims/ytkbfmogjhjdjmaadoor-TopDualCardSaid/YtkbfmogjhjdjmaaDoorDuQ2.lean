/- Plain: TopDual: pieces, tried: part 2. (Printed by gendual.py.) -/
import Derived.Test.YtkbfmogjhjdjmaaDoorDuPB
namespace Go.Proofs.YtkbfmogjhjdjmaaDoor
namespace Du
set_option maxRecDepth 100000 in
theorem a5_is : allP dualB 6 4 [(5, 4)] = true := by decide +kernel
set_option maxRecDepth 100000 in
theorem a5_io : allP dualB 6 3 [(8, 0), (5, 4)] = true := by decide +kernel
set_option maxRecDepth 100000 in
theorem a5_ii : allP dualB 6 3 [(7, 4), (5, 4)] = true := by decide +kernel
set_option maxRecDepth 100000 in
theorem a6_ss : allP dualB 6 6 [] = true := by decide +kernel
set_option maxRecDepth 100000 in
theorem a6_sos : allP dualB 5 5 [(8, 0)] = true := by decide +kernel
set_option maxRecDepth 100000 in
theorem a6_soo : allP dualB 5 4 [(12, 4), (8, 0)] = true := by decide +kernel
end Du
end Go.Proofs.YtkbfmogjhjdjmaaDoor
