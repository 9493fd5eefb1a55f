/- A book is read from its file, in plain words. -/
import Derived.Test.YtbgakdpbglpfaaaGreatDoorDrXf
namespace Go.Proofs.YtbgakdpbglpfaaaGreatDoor
open Go.RowKit
namespace Dr
set_option linter.unusedSimpArgs false
def beginL : List UInt8 := [97, 105, 103, 114, 101, 116, 116, 101, 32]
def endL : List UInt8 := [115, 117, 109, 32]
/-- all lines are done; the first error, if there is one -/
def doAll : List ByteArray → Book → Int × Book
  | [], b => (0, b)
  | l :: ls, b => if b.would l = 0 then doAll ls (b.done l) else (b.would l, b)
/-- the lines of a file, as they are split -/
def linesF (file : ByteArray) : List ByteArray := Lib.splitB ⟨#[10]⟩ 0 (Lib.countB (file.extract 0 (file.size - 1)) ⟨#[10]⟩) (file.extract 0 (file.size - 1))
structure FileW where
  is : Bool
  also : Bool
  many : Option Nat
  sum : Option Nat
/-- what stands in the first and in the last line -/
def fileW (file : ByteArray) : FileW :=
  let f := byts ((linesF file).headD ⟨#[]⟩)
  let l := byts ((linesF file).getD ((linesF file).length - 1) ⟨#[]⟩)
  ⟨Lib.hasPrefix f beginL, Lib.hasPrefix l endL, numOf (Lib.trimPrefix f beginL) 5, numOf (Lib.trimPrefix l endL) 4⟩
/-- is it right: how many lines there are, and a sum -/
def fileOk (file : ByteArray) : Bool :=
  let r := fileW file
  r.is && r.also && r.many.isSome && r.sum.isSome && decide (r.many.getD 0 + 2 = (linesF file).length) && decide (r.sum.getD 0 ≤ 9900)
/-- what of the file is summed -/
def sumF (file : ByteArray) : Nat := sumB ((byts file).take (file.size - ((linesF file).getD ((linesF file).length - 1) ⟨#[]⟩).size - 1))
/-- what Read returns -/
def readF (file : ByteArray) : Int × Book :=
  if 16000 < file.size then (19, Book.new)
  else if Lib.hasSuffix (byts file) [10] = false then (18, Book.new)
  else if fileOk file = false then (9, Book.new)
  else if (fileW file).sum.getD 0 ≠ sumF file then (17, Book.new)
  else doAll ((linesF file).drop 1).dropLast Book.new
theorem numV_eq (o : Option Nat) : numV o = .tuple #[.int .i64 ((o.getD 0 : Nat) : Int), .bool o.isSome] := by
  cases o <;> rfl
end Dr
end Go.Proofs.YtbgakdpbglpfaaaGreatDoor
