/- Plain: TopDual: all pieces that shape makes are tried: joined. (Printed by gendual.py.) -/
import Derived.Test.YtkbfmogjhjdjmaaDoorDuQ0
import Derived.Test.YtkbfmogjhjdjmaaDoorDuQ1
import Derived.Test.YtkbfmogjhjdjmaaDoorDuQ2
import Derived.Test.YtkbfmogjhjdjmaaDoorDuQ3
import Derived.Test.YtkbfmogjhjdjmaaDoorDuQ4
import Derived.Test.YtkbfmogjhjdjmaaDoorDuQ5
import Derived.Test.YtkbfmogjhjdjmaaDoorDuQ6
import Derived.Test.YtkbfmogjhjdjmaaDoorDuQ7
import Derived.Test.YtkbfmogjhjdjmaaDoorDuQ8
import Derived.Test.YtkbfmogjhjdjmaaDoorDuQ9
namespace Go.Proofs.YtkbfmogjhjdjmaaDoor
namespace Du
theorem a4_s : allP dualB 7 4 [] = true := allP_node (j := 6) (k := 3) (Or.inr a4_ss) a4_so a4_si
theorem a4_ : allP dualB 8 4 [] = true := allP_node (j := 7) (k := 3) (Or.inr a4_s) a4_o a4_i
theorem a5_s : allP dualB 7 5 [] = true := allP_node (j := 6) (k := 4) (Or.inr a5_ss) a5_so a5_si
theorem a5_o : allP dualB 7 4 [(4, 0)] = true := allP_node (j := 6) (k := 3) (Or.inr a5_os) a5_oo a5_oi
theorem a5_i : allP dualB 7 4 [(5, 4)] = true := allP_node (j := 6) (k := 3) (Or.inr a5_is) a5_io a5_ii
theorem a5_ : allP dualB 8 5 [] = true := allP_node (j := 7) (k := 4) (Or.inr a5_s) a5_o a5_i
theorem a6_so : allP dualB 6 5 [(8, 0)] = true := allP_node (j := 5) (k := 4) (Or.inr a6_sos) a6_soo a6_soi
theorem a6_si : allP dualB 6 5 [(7, 4)] = true := allP_node (j := 5) (k := 4) (Or.inr a6_sis) a6_sio a6_sii
theorem a6_s : allP dualB 7 6 [] = true := allP_node (j := 6) (k := 5) (Or.inr a6_ss) a6_so a6_si
theorem a6_os : allP dualB 6 5 [(4, 0)] = true := allP_node (j := 5) (k := 4) (Or.inr a6_oss) a6_oso a6_osi
theorem a6_oo : allP dualB 6 4 [(8, 0), (4, 0)] = true := allP_node (j := 5) (k := 3) (Or.inr a6_oos) a6_ooo a6_ooi
theorem a6_oi : allP dualB 6 4 [(7, 4), (4, 0)] = true := allP_node (j := 5) (k := 3) (Or.inr a6_ois) a6_oio a6_oii
theorem a6_o : allP dualB 7 5 [(4, 0)] = true := allP_node (j := 6) (k := 4) (Or.inr a6_os) a6_oo a6_oi
theorem a6_is : allP dualB 6 5 [(5, 4)] = true := allP_node (j := 5) (k := 4) (Or.inr a6_iss) a6_iso a6_isi
theorem a6_io : allP dualB 6 4 [(8, 0), (5, 4)] = true := allP_node (j := 5) (k := 3) (Or.inr a6_ios) a6_ioo a6_ioi
theorem a6_ii : allP dualB 6 4 [(7, 4), (5, 4)] = true := allP_node (j := 5) (k := 3) (Or.inr a6_iis) a6_iio a6_iii
theorem a6_i : allP dualB 7 5 [(5, 4)] = true := allP_node (j := 6) (k := 4) (Or.inr a6_is) a6_io a6_ii
theorem a6_ : allP dualB 8 6 [] = true := allP_node (j := 7) (k := 5) (Or.inr a6_s) a6_o a6_i
theorem a7_oo : allP dualB 6 5 [(8, 0), (4, 0)] = true := allP_node (j := 5) (k := 4) (Or.inr a7_oos) a7_ooo a7_ooi
theorem a7_oi : allP dualB 6 5 [(7, 4), (4, 0)] = true := allP_node (j := 5) (k := 4) (Or.inr a7_ois) a7_oio a7_oii
theorem a7_o : allP dualB 7 6 [(4, 0)] = true := allP_node (j := 6) (k := 5) (Or.inr a7_os) a7_oo a7_oi
theorem a7_io : allP dualB 6 5 [(8, 0), (5, 4)] = true := allP_node (j := 5) (k := 4) (Or.inr a7_ios) a7_ioo a7_ioi
theorem a7_ii : allP dualB 6 5 [(7, 4), (5, 4)] = true := allP_node (j := 5) (k := 4) (Or.inr a7_iis) a7_iio a7_iii
theorem a7_i : allP dualB 7 6 [(5, 4)] = true := allP_node (j := 6) (k := 5) (Or.inr a7_is) a7_io a7_ii
theorem a7_ : allP dualB 8 7 [] = true := allP_node (j := 7) (k := 6) (Or.inr a7_s) a7_o a7_i
theorem a8_o : allP dualB 7 7 [(4, 0)] = true := allP_node (j := 6) (k := 6) (Or.inl (by decide)) a8_oo a8_oi
theorem a8_i : allP dualB 7 7 [(5, 4)] = true := allP_node (j := 6) (k := 6) (Or.inl (by decide)) a8_io a8_ii
theorem a8_ : allP dualB 8 8 [] = true := allP_node (j := 7) (k := 7) (Or.inl (by decide)) a8_o a8_i
theorem all_pieces (n : Nat) (h3 : 3 ≤ n) (h8 : n ≤ 8) : allP dualB 8 n [] = true := by
  have h : n = 3 ∨ n = 4 ∨ n = 5 ∨ n = 6 ∨ n = 7 ∨ n = 8 := by omega
  rcases h with rfl | rfl | rfl | rfl | rfl | rfl
  · exact a3_
  · exact a4_
  · exact a5_
  · exact a6_
  · exact a7_
  · exact a8_
end Du
end Go.Proofs.YtkbfmogjhjdjmaaDoor
