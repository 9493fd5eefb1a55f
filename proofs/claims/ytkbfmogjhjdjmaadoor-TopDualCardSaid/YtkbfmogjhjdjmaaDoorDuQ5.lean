/- Plain: TopDual: pieces, tried: part 5. (Printed by gendual.py.) -/
import Derived.Test.YtkbfmogjhjdjmaaDoorDuPB
namespace Go.Proofs.YtkbfmogjhjdjmaaDoor
namespace Du
set_option maxRecDepth 100000 in
theorem a6_oii : allP dualB 5 3 [(8, 5), (7, 4), (4, 0)] = true := by decide +kernel
set_option maxRecDepth 100000 in
theorem a6_iss : allP dualB 5 5 [(5, 4)] = true := by decide +kernel
set_option maxRecDepth 100000 in
theorem a6_iso : allP dualB 5 4 [(12, 4), (5, 4)] = true := by decide +kernel
set_option maxRecDepth 100000 in
theorem a6_isi : allP dualB 5 4 [(8, 5), (5, 4)] = true := by decide +kernel
set_option maxRecDepth 100000 in
theorem a6_ios : allP dualB 5 4 [(8, 0), (5, 4)] = true := by decide +kernel
set_option maxRecDepth 100000 in
theorem a6_ioo : allP dualB 5 3 [(12, 4), (8, 0), (5, 4)] = true := by decide +kernel
end Du
end Go.Proofs.YtkbfmogjhjdjmaaDoor
