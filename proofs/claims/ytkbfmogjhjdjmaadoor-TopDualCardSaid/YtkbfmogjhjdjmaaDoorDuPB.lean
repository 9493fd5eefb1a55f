/- Plain: what the law TopDual asks of a piece, in the words of the trees' contracts. -/
import Derived.Test.YtkbfmogjhjdjmaaDoorDuP
import Derived.Test.YtkbfmogjhjdjmaaDoorBrAll
namespace Go.Proofs.YtkbfmogjhjdjmaaDoor
namespace Du
def treeOk (n : Nat) (ts : List (Nat × Nat)) : Bool := decide (1 ≤ n) && decide (n ≤ 9) && decide (ts.length < n) && ((List.range ts.length).all fun i => match ts[i]? with
  | some (a, b) => decide (a < n) && decide (b < n) && decide (a ≠ b) && !((Br.woodT n ts i).getD a 0).testBit b
  | none => true) && decide (Br.fromW (Br.woodT n ts ts.length) 0 = 2 ^ n - 1)
theorem tree_of {n : Nat} {ts : List (Nat × Nat)} (h : treeOk n ts = true) : Br.Tree n ts := by
  unfold treeOk at h
  simp only [Bool.and_eq_true, decide_eq_true_eq, List.all_eq_true, List.mem_range] at h
  obtain ⟨⟨⟨⟨h1, h2⟩, h3⟩, h4⟩, h5⟩ := h
  refine ⟨h1, h2, h3, fun i a b hi => ?_, h5⟩
  have := h4 i (List.getElem?_eq_some_iff.1 hi).1
  rw [hi] at this
  simp only [Bool.and_eq_true, decide_eq_true_eq, Bool.not_eq_true'] at this
  exact ⟨this.1.1.1, this.1.1.2, this.1.2, this.2⟩
def triD (l : List (Pt × Pt × Pt)) (k : Nat) : Pt × Pt × Pt := l.getD k ((0, 0), (0, 0), (0, 0))
/-- a corner that is an ear, of triangle k alone -/
def cornB (o : List Pt) (es : List Nat) (l : List (Pt × Pt × Pt)) (k i : Nat) : Bool := es.contains i && in3 (triD l k) (at' o i) && (List.range l.length).all fun m => m == k || !in3 (triD l m) (at' o i)
def knotB (o : List Pt) (es : List Nat) (l : List (Pt × Pt × Pt)) (D : List Nat) (k : Nat) : Bool := decide (D.getD k 0 ≤ 3) && ((D.getD k 0 != 1 && decide (1 < l.length)) || (List.range o.length).any (cornB o es l k))
def dualB (o : List Pt) : Bool :=
  !pieceOk o || (let l := tris (o.length - 3) o
  let ts := ties l
  let es := ears o
  let D := Br.degW (Br.woodT l.length ts ts.length)
  treeOk l.length ts && (List.range l.length).all (knotB o es l D))
end Du
end Go.Proofs.YtkbfmogjhjdjmaaDoor
