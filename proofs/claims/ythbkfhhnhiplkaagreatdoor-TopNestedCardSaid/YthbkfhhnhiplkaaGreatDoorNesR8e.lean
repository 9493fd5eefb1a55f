/- Plain: TopNested, the good orders of 8 pairs from number 1144 on, 286 of them, are tried. -/
import Derived.Test.YthbkfhhnhiplkaaGreatDoorNesP
namespace Go.Proofs.YthbkfhhnhiplkaaGreatDoor
namespace Ns
set_option maxRecDepth 100000 in
theorem nest_8_1144 : ((List.range 26).all fun j => nestOk 8 (j + 1144)) = true := by decide +kernel
set_option maxRecDepth 100000 in
theorem nest_8_1170 : ((List.range 26).all fun j => nestOk 8 (j + 1170)) = true := by decide +kernel
set_option maxRecDepth 100000 in
theorem nest_8_1196 : ((List.range 26).all fun j => nestOk 8 (j + 1196)) = true := by decide +kernel
set_option maxRecDepth 100000 in
theorem nest_8_1222 : ((List.range 26).all fun j => nestOk 8 (j + 1222)) = true := by decide +kernel
set_option maxRecDepth 100000 in
theorem nest_8_1248 : ((List.range 26).all fun j => nestOk 8 (j + 1248)) = true := by decide +kernel
set_option maxRecDepth 100000 in
theorem nest_8_1274 : ((List.range 26).all fun j => nestOk 8 (j + 1274)) = true := by decide +kernel
set_option maxRecDepth 100000 in
theorem nest_8_1300 : ((List.range 26).all fun j => nestOk 8 (j + 1300)) = true := by decide +kernel
set_option maxRecDepth 100000 in
theorem nest_8_1326 : ((List.range 26).all fun j => nestOk 8 (j + 1326)) = true := by decide +kernel
set_option maxRecDepth 100000 in
theorem nest_8_1352 : ((List.range 26).all fun j => nestOk 8 (j + 1352)) = true := by decide +kernel
set_option maxRecDepth 100000 in
theorem nest_8_1378 : ((List.range 26).all fun j => nestOk 8 (j + 1378)) = true := by decide +kernel
set_option maxRecDepth 100000 in
theorem nest_8_1404 : ((List.range 26).all fun j => nestOk 8 (j + 1404)) = true := by decide +kernel
end Ns
end Go.Proofs.YthbkfhhnhiplkaaGreatDoor
