/- Plain: TopNested, all good orders of 7 pairs are tried. -/
import Derived.Test.YthbkfhhnhiplkaaGreatDoorNesP
namespace Go.Proofs.YthbkfhhnhiplkaaGreatDoor
namespace Ns
set_option maxRecDepth 100000 in
theorem nest_7_0 : ((List.range 33).all fun j => nestOk 7 (j + 0)) = true := by decide +kernel
set_option maxRecDepth 100000 in
theorem nest_7_33 : ((List.range 33).all fun j => nestOk 7 (j + 33)) = true := by decide +kernel
set_option maxRecDepth 100000 in
theorem nest_7_66 : ((List.range 33).all fun j => nestOk 7 (j + 66)) = true := by decide +kernel
set_option maxRecDepth 100000 in
theorem nest_7_99 : ((List.range 33).all fun j => nestOk 7 (j + 99)) = true := by decide +kernel
set_option maxRecDepth 100000 in
theorem nest_7_132 : ((List.range 33).all fun j => nestOk 7 (j + 132)) = true := by decide +kernel
set_option maxRecDepth 100000 in
theorem nest_7_165 : ((List.range 33).all fun j => nestOk 7 (j + 165)) = true := by decide +kernel
set_option maxRecDepth 100000 in
theorem nest_7_198 : ((List.range 33).all fun j => nestOk 7 (j + 198)) = true := by decide +kernel
set_option maxRecDepth 100000 in
theorem nest_7_231 : ((List.range 33).all fun j => nestOk 7 (j + 231)) = true := by decide +kernel
set_option maxRecDepth 100000 in
theorem nest_7_264 : ((List.range 33).all fun j => nestOk 7 (j + 264)) = true := by decide +kernel
set_option maxRecDepth 100000 in
theorem nest_7_297 : ((List.range 33).all fun j => nestOk 7 (j + 297)) = true := by decide +kernel
set_option maxRecDepth 100000 in
theorem nest_7_330 : ((List.range 33).all fun j => nestOk 7 (j + 330)) = true := by decide +kernel
set_option maxRecDepth 100000 in
theorem nest_7_363 : ((List.range 33).all fun j => nestOk 7 (j + 363)) = true := by decide +kernel
set_option maxRecDepth 100000 in
theorem nest_7_396 : ((List.range 33).all fun j => nestOk 7 (j + 396)) = true := by decide +kernel
end Ns
end Go.Proofs.YthbkfhhnhiplkaaGreatDoor
