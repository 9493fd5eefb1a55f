/- Plain: TopNested, the good orders of 8 pairs from number 858 on, 286 of them, are tried. -/
import Derived.Test.YthbkfhhnhiplkaaGreatDoorNesP
namespace Go.Proofs.YthbkfhhnhiplkaaGreatDoor
namespace Ns
set_option maxRecDepth 100000 in
theorem nest_8_858 : ((List.range 26).all fun j => nestOk 8 (j + 858)) = true := by decide +kernel
set_option maxRecDepth 100000 in
theorem nest_8_884 : ((List.range 26).all fun j => nestOk 8 (j + 884)) = true := by decide +kernel
set_option maxRecDepth 100000 in
theorem nest_8_910 : ((List.range 26).all fun j => nestOk 8 (j + 910)) = true := by decide +kernel
set_option maxRecDepth 100000 in
theorem nest_8_936 : ((List.range 26).all fun j => nestOk 8 (j + 936)) = true := by decide +kernel
set_option maxRecDepth 100000 in
theorem nest_8_962 : ((List.range 26).all fun j => nestOk 8 (j + 962)) = true := by decide +kernel
set_option maxRecDepth 100000 in
theorem nest_8_988 : ((List.range 26).all fun j => nestOk 8 (j + 988)) = true := by decide +kernel
set_option maxRecDepth 100000 in
theorem nest_8_1014 : ((List.range 26).all fun j => nestOk 8 (j + 1014)) = true := by decide +kernel
set_option maxRecDepth 100000 in
theorem nest_8_1040 : ((List.range 26).all fun j => nestOk 8 (j + 1040)) = true := by decide +kernel
set_option maxRecDepth 100000 in
theorem nest_8_1066 : ((List.range 26).all fun j => nestOk 8 (j + 1066)) = true := by decide +kernel
set_option maxRecDepth 100000 in
theorem nest_8_1092 : ((List.range 26).all fun j => nestOk 8 (j + 1092)) = true := by decide +kernel
set_option maxRecDepth 100000 in
theorem nest_8_1118 : ((List.range 26).all fun j => nestOk 8 (j + 1118)) = true := by decide +kernel
end Ns
end Go.Proofs.YthbkfhhnhiplkaaGreatDoor
