/- Plain: TopDual: pieces, tried: part 0. (Printed by gendual.py.) -/
import Derived.Test.YtkbfmogjhjdjmaaDoorDuPB
namespace Go.Proofs.YtkbfmogjhjdjmaaDoor
namespace Du
set_option maxRecDepth 100000 in
theorem a3_ : allP dualB 8 3 [] = true := by decide +kernel
set_option maxRecDepth 100000 in
theorem a4_ss : allP dualB 6 4 [] = true := by decide +kernel
set_option maxRecDepth 100000 in
theorem a4_so : allP dualB 6 3 [(8, 0)] = true := by decide +kernel
set_option maxRecDepth 100000 in
theorem a4_si : allP dualB 6 3 [(7, 4)] = true := by decide +kernel
set_option maxRecDepth 100000 in
theorem a4_o : allP dualB 7 3 [(4, 0)] = true := by decide +kernel
set_option maxRecDepth 100000 in
theorem a4_i : allP dualB 7 3 [(5, 4)] = true := by decide +kernel
end Du
end Go.Proofs.YtkbfmogjhjdjmaaDoor
