/- Plain: TopNested, the good orders of 8 pairs from number 0 on, 286 of them, are tried. -/
import Derived.Test.YthbkfhhnhiplkaaGreatDoorNesP
namespace Go.Proofs.YthbkfhhnhiplkaaGreatDoor
namespace Ns
set_option maxRecDepth 100000 in
theorem nest_8_0 : ((List.range 26).all fun j => nestOk 8 (j + 0)) = true := by decide +kernel
set_option maxRecDepth 100000 in
theorem nest_8_26 : ((List.range 26).all fun j => nestOk 8 (j + 26)) = true := by decide +kernel
set_option maxRecDepth 100000 in
theorem nest_8_52 : ((List.range 26).all fun j => nestOk 8 (j + 52)) = true := by decide +kernel
set_option maxRecDepth 100000 in
theorem nest_8_78 : ((List.range 26).all fun j => nestOk 8 (j + 78)) = true := by decide +kernel
set_option maxRecDepth 100000 in
theorem nest_8_104 : ((List.range 26).all fun j => nestOk 8 (j + 104)) = true := by decide +kernel
set_option maxRecDepth 100000 in
theorem nest_8_130 : ((List.range 26).all fun j => nestOk 8 (j + 130)) = true := by decide +kernel
set_option maxRecDepth 100000 in
theorem nest_8_156 : ((List.range 26).all fun j => nestOk 8 (j + 156)) = true := by decide +kernel
set_option maxRecDepth 100000 in
theorem nest_8_182 : ((List.range 26).all fun j => nestOk 8 (j + 182)) = true := by decide +kernel
set_option maxRecDepth 100000 in
theorem nest_8_208 : ((List.range 26).all fun j => nestOk 8 (j + 208)) = true := by decide +kernel
set_option maxRecDepth 100000 in
theorem nest_8_234 : ((List.range 26).all fun j => nestOk 8 (j + 234)) = true := by decide +kernel
set_option maxRecDepth 100000 in
theorem nest_8_260 : ((List.range 26).all fun j => nestOk 8 (j + 260)) = true := by decide +kernel
end Ns
end Go.Proofs.YthbkfhhnhiplkaaGreatDoor
