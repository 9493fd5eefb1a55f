/- Plain: TopNested, the good orders of 8 pairs from number 572 on, 286 of them, are tried. -/
import Derived.Test.YthbkfhhnhiplkaaGreatDoorNesP
namespace Go.Proofs.YthbkfhhnhiplkaaGreatDoor
namespace Ns
set_option maxRecDepth 100000 in
theorem nest_8_572 : ((List.range 26).all fun j => nestOk 8 (j + 572)) = true := by decide +kernel
set_option maxRecDepth 100000 in
theorem nest_8_598 : ((List.range 26).all fun j => nestOk 8 (j + 598)) = true := by decide +kernel
set_option maxRecDepth 100000 in
theorem nest_8_624 : ((List.range 26).all fun j => nestOk 8 (j + 624)) = true := by decide +kernel
set_option maxRecDepth 100000 in
theorem nest_8_650 : ((List.range 26).all fun j => nestOk 8 (j + 650)) = true := by decide +kernel
set_option maxRecDepth 100000 in
theorem nest_8_676 : ((List.range 26).all fun j => nestOk 8 (j + 676)) = true := by decide +kernel
set_option maxRecDepth 100000 in
theorem nest_8_702 : ((List.range 26).all fun j => nestOk 8 (j + 702)) = true := by decide +kernel
set_option maxRecDepth 100000 in
theorem nest_8_728 : ((List.range 26).all fun j => nestOk 8 (j + 728)) = true := by decide +kernel
set_option maxRecDepth 100000 in
theorem nest_8_754 : ((List.range 26).all fun j => nestOk 8 (j + 754)) = true := by decide +kernel
set_option maxRecDepth 100000 in
theorem nest_8_780 : ((List.range 26).all fun j => nestOk 8 (j + 780)) = true := by decide +kernel
set_option maxRecDepth 100000 in
theorem nest_8_806 : ((List.range 26).all fun j => nestOk 8 (j + 806)) = true := by decide +kernel
set_option maxRecDepth 100000 in
theorem nest_8_832 : ((List.range 26).all fun j => nestOk 8 (j + 832)) = true := by decide +kernel
end Ns
end Go.Proofs.YthbkfhhnhiplkaaGreatDoor
