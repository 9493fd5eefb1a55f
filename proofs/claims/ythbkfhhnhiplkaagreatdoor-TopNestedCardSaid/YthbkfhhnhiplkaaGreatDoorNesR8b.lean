/- Plain: TopNested, the good orders of 8 pairs from number 286 on, 286 of them, are tried. -/
import Derived.Test.YthbkfhhnhiplkaaGreatDoorNesP
namespace Go.Proofs.YthbkfhhnhiplkaaGreatDoor
namespace Ns
set_option maxRecDepth 100000 in
theorem nest_8_286 : ((List.range 26).all fun j => nestOk 8 (j + 286)) = true := by decide +kernel
set_option maxRecDepth 100000 in
theorem nest_8_312 : ((List.range 26).all fun j => nestOk 8 (j + 312)) = true := by decide +kernel
set_option maxRecDepth 100000 in
theorem nest_8_338 : ((List.range 26).all fun j => nestOk 8 (j + 338)) = true := by decide +kernel
set_option maxRecDepth 100000 in
theorem nest_8_364 : ((List.range 26).all fun j => nestOk 8 (j + 364)) = true := by decide +kernel
set_option maxRecDepth 100000 in
theorem nest_8_390 : ((List.range 26).all fun j => nestOk 8 (j + 390)) = true := by decide +kernel
set_option maxRecDepth 100000 in
theorem nest_8_416 : ((List.range 26).all fun j => nestOk 8 (j + 416)) = true := by decide +kernel
set_option maxRecDepth 100000 in
theorem nest_8_442 : ((List.range 26).all fun j => nestOk 8 (j + 442)) = true := by decide +kernel
set_option maxRecDepth 100000 in
theorem nest_8_468 : ((List.range 26).all fun j => nestOk 8 (j + 468)) = true := by decide +kernel
set_option maxRecDepth 100000 in
theorem nest_8_494 : ((List.range 26).all fun j => nestOk 8 (j + 494)) = true := by decide +kernel
set_option maxRecDepth 100000 in
theorem nest_8_520 : ((List.range 26).all fun j => nestOk 8 (j + 520)) = true := by decide +kernel
set_option maxRecDepth 100000 in
theorem nest_8_546 : ((List.range 26).all fun j => nestOk 8 (j + 546)) = true := by decide +kernel
end Ns
end Go.Proofs.YthbkfhhnhiplkaaGreatDoor
