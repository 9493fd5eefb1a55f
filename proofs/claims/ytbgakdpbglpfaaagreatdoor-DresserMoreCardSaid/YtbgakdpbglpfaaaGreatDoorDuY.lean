/- The rows' lists of laid tables with the two errors of package strconv among them; a world for the witness. -/
import Derived.Test.YtbgakdpbglpfaaaGreatDoorDuX
namespace Go.Proofs.YtbgakdpbglpfaaaGreatDoor
open Go.ChangeShapes Go.WideShapes Go.ChangeAt Go.RowKit
abbrev laid7 : List (String × DataW Unit) := [("math/bits.deBruijn32tab", Rows.laid_math_bits_deBruijn32tab), ("math/bits.deBruijn64tab", Rows.laid_math_bits_deBruijn64tab), ("internal/strconv.uint64pow10", Rows.laid_internal_strconv_uint64pow10), ("unicode/utf8.acceptRanges", Rows.laid_unicode_utf8_acceptRanges), ("strconv.ErrRange", Rows.laid_strconv_ErrRange), ("strconv.ErrSyntax", Rows.laid_strconv_ErrSyntax), ("unicode/utf8.first", Rows.laid_unicode_utf8_first)]
theorem tabs_of7 {W : World} (h : laidMetH Tryz.prog laid7 W) (hs : W.ShapedOpen Tryz.prog) : Dr.Tabs W :=
  ⟨maxl_of hs, tab_third (rest := [("unicode/utf8.acceptRanges", Rows.laid_unicode_utf8_acceptRanges), ("strconv.ErrRange", Rows.laid_strconv_ErrRange), ("strconv.ErrSyntax", Rows.laid_strconv_ErrSyntax), ("unicode/utf8.first", Rows.laid_unicode_utf8_first)]) (t := 227) Dr.itb_name (by kernel_rfl) Tryz.underlying227 Tryz.underlying187 (by kernel_rfl) (by kernel_rfl) h⟩
/-- a value laid into its variable -/
def layV (v : Value) : Obj → Obj
  | .cells _ t frozen => .cells #[v] t frozen
  | o => o
/-- a world for the witness: the two errors lie in new blocks -/
noncomputable def laidWorld7 (os : Os) : World :=
  { laidWorld os with heap := ((((laidWorld os).heap.push (.cells #[.string ⟨#[118, 97, 108, 117, 101, 32, 111, 117, 116, 32, 111, 102, 32, 114, 97, 110, 103, 101]⟩] 234)).push (.cells #[.string ⟨#[105, 110, 118, 97, 108, 105, 100, 32, 115, 121, 110, 116, 97, 120]⟩] 234)).modify 1 (layV (.iface 232 (.pointer (some ⟨(laidWorld os).heap.size, 0, none⟩))))).modify 0 (layV (.iface 232 (.pointer (some ⟨(laidWorld os).heap.size + 1, 0, none⟩)))) }
set_option maxRecDepth 100000 in
theorem laid7_met (os : Os) (args : Array Value) : laidMet Tryz.prog laid7 ((laidWorld7 os).forCall (fun _ _ => 0) ⟨#[], args, []⟩).memory := laidMet_of_run' 70 (by kernel_rfl) (by kernel_rfl)
end Go.Proofs.YtbgakdpbglpfaaaGreatDoor
