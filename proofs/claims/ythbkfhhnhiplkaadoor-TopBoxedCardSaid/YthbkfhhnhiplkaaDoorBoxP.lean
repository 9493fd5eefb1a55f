/- Plain: divisions of orders of customers, and what the law TopBoxed asks of them: all sizes are tried. -/
import Derived.Test.YthbkfhhnhiplkaaDoorTiAll
import Derived.Test.YthbkfhhnhiplkaaDoorBuN
namespace Go.Proofs.YthbkfhhnhiplkaaDoor
namespace Bx
def cntC (l : List UInt8) : Nat := (l.filter fun x => x == 99).length
def divL : List UInt8 → List Nat
  | [] => []
  | x :: r => if x = 110 then (if 0 < cntC r then cntC r :: divL r else divL r) else divL r
def flipB (x : UInt8) : UInt8 := if x = 99 then 110 else 99
def backL (l : List UInt8) : List UInt8 := l.reverse.map flipB
def fitsL (c n : Nat) (l : List Nat) : Bool := (List.range n).all fun i => decide ((i : Int) + 1 ≤ (c : Int) - (l.getD i 0 : Nat))
def ordW (c n k : Nat) : List UInt8 := Ti.atV c n n k
def keyB (c n k : Nat) : Nat × Nat := ((divL (ordW c n k)).sum, numD (divL (ordW c n k)) (divL (ordW c n k)).sum)
def goodB (c n k : Nat) : Bool := fitsL c n (divL (ordW c n k))
def divOk (l : List Nat) : Bool := decide (∀ x ∈ l, 1 ≤ x ∧ x ≤ 30) && decide (l.Pairwise (fun a b => b ≤ a)) && decide (l.sum ≤ 30)
def boxOne (c n k : Nat) : Bool := decide (Ti.atE c n n k = 0) && decide ((ordW c n k).length = c + n) && divOk (divL (ordW c n k)) && decide (turnedN (divL (ordW c n k)) (divL (ordW c n k)).length = divL (backL (ordW c n k)))
  && (decide (Ti.lackE (ordW c n k) 0 = 12) == fitsL c n (divL (ordW c n k))) && decide (numD (divL (ordW c n k)) (divL (ordW c n k)).sum ≤ 1000000)
def boxN (c n : Nat) : Nat := (Ti.cntV c n n).toNat
def cntG (c n : Nat) : Nat → Nat
  | 0 => 0
  | k + 1 => if goodB c n k then cntG c n k + 1 else cntG c n k
def boxAll (c n : Nat) : Bool := decide (Ti.cntE c n n = 0) && decide (1 ≤ Ti.cntV c n n) && decide (Ti.cntV c n n ≤ 70) && (List.range (boxN c n)).all (boxOne c n) && decide (((List.range (boxN c n)).map (keyB c n)).Nodup)
  && decide (Ti.cntE c n 0 = 0) && decide (Ti.cntV c n 0 = (cntG c n (boxN c n) : Int))
set_option maxRecDepth 100000 in
theorem box_all : ((List.range 5).all fun c => (List.range 5).all fun n => boxAll c n) = true := by decide +kernel
end Bx
end Go.Proofs.YthbkfhhnhiplkaaDoor
