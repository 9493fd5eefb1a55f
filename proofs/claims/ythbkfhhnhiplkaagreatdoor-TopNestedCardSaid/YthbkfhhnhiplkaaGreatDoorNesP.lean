/- Plain: what the law TopNested asks: all good orders are tried. -/
import Derived.Test.YthbkfhhnhiplkaaGreatDoorBrAll
import Derived.Test.YthbkfhhnhiplkaaGreatDoorTiAll
namespace Go.Proofs.YthbkfhhnhiplkaaGreatDoor
namespace Ns
def ordW (n k : Nat) : List UInt8 := Ti.atV n n 0 k
/-- the law's walk: knots, ties (the last first), the path (the last first), what was made by each customer, pairs gone, where the order stood -/
structure Stt where
  kn : Nat
  ts : List (Nat × Nat)
  path : List Nat
  made : List Nat
  left : Nat
  at' : List Nat
deriving DecidableEq
def st0 : Stt := ⟨1, [], [0], [], 0, []⟩
def stepS (s : Stt) (x : UInt8) : Stt :=
  if x = 99 then ⟨s.kn + 1, s.ts ++ [(s.path.headD 0, s.kn)], s.kn :: s.path, s.made ++ [s.kn], s.left, s.at' ++ [s.kn]⟩
  else ⟨s.kn, s.ts, s.path.tail, s.made ++ [0], s.left + 1, s.at' ++ [s.path.tail.headD 0]⟩
def runS (l : List UInt8) : Stt := l.foldl stepS st0
/-- a note's pair is the one that goes back -/
def noteOk (back : List (Nat × Nat)) (i : Nat) (s : Stt) : Bool := decide (s.path.headD 0 ≠ 0) && (match back[s.left]? with
  | some (a, b) => decide (b = i) && decide (a < i) && decide (s.made.getD a 0 = s.path.headD 0)
  | none => false)
def notesOk (l : List UInt8) (back : List (Nat × Nat)) : Bool := (List.range l.length).all fun i => l.getD i 0 == 99 || noteOk back i (runS (l.take i))
def treeOk (n : Nat) (ts : List (Nat × Nat)) : Bool := decide (ts.length < n) && ((List.range ts.length).all fun i => match ts[i]? with
  | some (a, b) => decide (a < n) && decide (b < n) && decide (a ≠ b) && !((Br.woodT n ts i).getD a 0).testBit b
  | none => true) && decide (Br.fromW (Br.woodT n ts ts.length) 0 = 2 ^ n - 1)
def wayOk (n : Nat) (W : List Nat) (c : Int) (k : Nat) : Bool := decide (k < n) && Br.walkOk W k n 0 (-1) && decide (((Br.wayW W 0 k).length : Int) = c + 1)
def treeB (n : Nat) (W : List Nat) (cs : List Int) (at' : List Nat) : Bool := ((List.range n).all fun k => Br.reaD W (2 ^ n - 1) n (2 ^ k)) && ((List.range at'.length).all fun i => wayOk n W (cs.getD i 0) (at'.getD i 0))
  && decide ((Br.degW W).getD 0 0 = (cs.filter fun c => c == 0).length) && (decide (n = 1) || decide (((Br.reaW W).getD 0 0 : Int) = cs.foldl max 0))
def nestOk (n k : Nat) : Bool := decide (Ti.atE n n 0 k = 0) && decide ((ordW n k).length = 2 * n) && decide (Ti.coinE (ordW n k) 0 = 0) && decide ((Ti.coinL (ordW n k) 0).length = 2 * n) && decide (Ti.pairE (ordW n k) = 0) && decide ((Ti.pairL (ordW n k)).length = n)
  && notesOk (ordW n k) (Ti.pairL (ordW n k)) && decide ((runS (ordW n k)).path = [0]) && decide ((runS (ordW n k)).kn = n + 1) && treeOk (n + 1) (runS (ordW n k)).ts
  && treeB (n + 1) (Br.woodT (n + 1) (runS (ordW n k)).ts n) (Ti.coinL (ordW n k) 0) (runS (ordW n k)).at'
def nestN (n : Nat) : Nat := (Ti.cntV n n 0).toNat
def nestAll (n : Nat) : Bool := decide (Ti.cntE n n 0 = 0) && decide (1 ≤ nestN n) && decide (nestN n ≤ 1430) && (List.range (nestN n)).all (nestOk n)
set_option maxRecDepth 100000 in
theorem nest_0 : nestAll 0 = true := by decide +kernel
set_option maxRecDepth 100000 in
theorem nest_1 : nestAll 1 = true := by decide +kernel
set_option maxRecDepth 100000 in
theorem nest_2 : nestAll 2 = true := by decide +kernel
set_option maxRecDepth 100000 in
theorem nest_3 : nestAll 3 = true := by decide +kernel
set_option maxRecDepth 100000 in
theorem nest_4 : nestAll 4 = true := by decide +kernel
set_option maxRecDepth 100000 in
theorem nest_5 : nestAll 5 = true := by decide +kernel
end Ns
end Go.Proofs.YthbkfhhnhiplkaaGreatDoor
