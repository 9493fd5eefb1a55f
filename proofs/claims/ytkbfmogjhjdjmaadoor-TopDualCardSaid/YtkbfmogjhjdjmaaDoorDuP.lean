/- Plain: what the law TopDual asks of a piece: triangles by cutting ears, their ties, ears; all pieces that the law's shape makes. -/
import Derived.Test.YtkbfmogjhjdjmaaDoorProg
namespace Go.Proofs.YtkbfmogjhjdjmaaDoor
namespace Du
abbrev Pt := Int × Int
def less (p q : Pt) : Pt := (p.1 - q.1, p.2 - q.2)
def times (p q : Pt) : Int := p.1 * q.2 - p.2 * q.1
def hasS (s0 s1 p : Pt) : Bool := decide (times (less s0 p) (less s1 p) = 0) && decide ((less s0 p).1 * (less s1 p).1 + (less s0 p).2 * (less s1 p).2 ≤ 0)
/-- how two sides meet: 0: they do not; 1: they cross; else in a point -/
inductive Met where
  | none
  | cross
  | pt (p : Pt)
deriving DecidableEq
def crossS (s0 s1 t0 t1 : Pt) : Bool :=
  (decide (0 < times (less s1 s0) (less t0 s0)) != decide (0 < times (less s1 s0) (less t1 s0))) && (decide (0 < times (less t1 t0) (less s0 t0)) != decide (0 < times (less t1 t0) (less s1 t0)))
def meetsS (s0 s1 t0 t1 : Pt) : Met :=
  if hasS t0 t1 s0 then .pt s0 else if hasS t0 t1 s1 then .pt s1 else if hasS s0 s1 t0 then .pt t0 else if hasS s0 s1 t1 then .pt t1 else if crossS s0 s1 t0 t1 then .cross else .none
def at' (o : List Pt) (i : Nat) : Pt := o.getD (i % o.length) (0, 0)
def prev (o : List Pt) (i : Nat) : Pt := at' o (i + o.length - 1)
/-- is the round's side all right -/
def sideOk (o : List Pt) (i : Nat) : Bool :=
  !hasS (prev o i) (at' o i) (at' o (i + 1)) && !hasS (at' o i) (at' o (i + 1)) (prev o i) &&
  (List.range (i - 1)).all fun k => !decide (i - k < o.length - 1) || decide (meetsS (at' o i) (at' o (i + 1)) (at' o k) (at' o (k + 1)) = .none)
def pieceOk (o : List Pt) : Bool := (List.range o.length).all (sideOk o)
def areaF (o : List Pt) : Int := ((List.range (o.length - 2)).map fun j => times (less (at' o (j + 1)) (at' o 0)) (less (at' o (j + 2)) (at' o 0))).foldl (· + ·) 0
def lineOk (a b : Pt) (s0 s1 : Pt) : Bool :=
  match meetsS a b s0 s1 with
  | .none => true
  | .cross => false
  | .pt p => if p = a ∨ p = b then !((decide (s0 ≠ a) && decide (s0 ≠ b) && hasS a b s0) || (decide (s1 ≠ a) && decide (s1 ≠ b) && hasS a b s1)) else false
def openB (after before to : Pt) : Bool :=
  if times after before ≤ 0 then decide (0 < times after to) || decide (0 < times to before) else decide (0 < times after to) && decide (0 < times to before)
def cutO (o : List Pt) (a b : Nat) : Bool :=
  let n := o.length
  let far := (b + n - a) % n
  if far < 2 ∨ n - 2 < far then false else
  let A := at' o a
  let B := at' o b
  let to := less B A
  let bf := less (prev o a) A
  let af := less (at' o (a + 1)) A
  (if areaF o < 0 then openB bf af to else openB af bf to) && (List.range n).all fun i => lineOk A B (at' o i) (at' o (i + 1))
def earO (o : List Pt) (i : Nat) : Bool := o.length == 3 || cutO o ((i + o.length - 1) % o.length) ((i + 1) % o.length)
def ears (o : List Pt) : List Nat := (List.range o.length).filter (earO o)
def firstEar (o : List Pt) : Nat := ((List.range (o.length - 1)).find? (earO o)).getD (o.length - 1)
def tris : Nat → List Pt → List (Pt × Pt × Pt)
  | 0, o => [(at' o 0, at' o 1, at' o 2)]
  | f + 1, o => let i := firstEar o; (prev o i, at' o i, at' o (i + 1)) :: tris f (o.eraseIdx i)
def in3 (t : Pt × Pt × Pt) (p : Pt) : Bool := decide (t.1 = p) || decide (t.2.1 = p) || decide (t.2.2 = p)
def common (s t : Pt × Pt × Pt) : Nat := ([s.1, s.2.1, s.2.2].map fun p => ([t.1, t.2.1, t.2.2].filter fun q => decide (p = q)).length).foldl (· + ·) 0
def ties (l : List (Pt × Pt × Pt)) : List (Nat × Nat) := (List.range l.length).flatMap fun a => (List.range a).filterMap fun b => if 2 ≤ common (l.getD a ((0,0),(0,0),(0,0))) (l.getD b ((0,0),(0,0),(0,0))) then some (b, a) else none
def deg (ts : List (Nat × Nat)) (k : Nat) : Nat := (ts.filter fun p => p.1 == k || p.2 == k).length
def reach (n : Nat) (ts : List (Nat × Nat)) : Nat → Nat → Nat
  | 0, s => s
  | f + 1, s => reach n ts f (ts.foldl (fun s p => if s.testBit p.1 || s.testBit p.2 then s ||| 2 ^ p.1 ||| 2 ^ p.2 else s) s)
def dualOk (o : List Pt) : Bool :=
  !pieceOk o || (let l := tris (o.length - 3) o
  let ts := ties l
  let es := ears o
  decide (l.length = o.length - 2) && decide (ts.length + 1 = l.length) && decide (reach l.length ts l.length 1 = 2 ^ l.length - 1) &&
  (List.range l.length).all fun k => decide (deg ts k ≤ 3) && ((deg ts k != 1 && decide (1 < l.length)) || (List.range o.length).any fun i => es.contains i && in3 (l.getD k ((0,0),(0,0),(0,0))) (at' o i) && (List.range l.length).all fun m => m == k || !in3 (l.getD m ((0,0),(0,0),(0,0))) (at' o i)))
def around : List Pt := [(4, 0), (8, 0), (12, 4), (12, 8), (8, 12), (4, 12), (0, 8), (0, 4)]
def inner : List Pt := [(5, 4), (7, 4), (8, 5), (8, 7), (7, 8), (5, 8), (4, 7), (4, 5)]
/-- all pieces: from place 8 - j on, k points more -/
def allP (f : List Pt → Bool) : Nat → Nat → List Pt → Bool
  | _, 0, acc => f acc.reverse
  | 0, _ + 1, _ => true
  | j + 1, k + 1, acc => (decide (j < k + 1) || allP f j (k + 1) acc) && allP f j k (around.getD (7 - j) (0, 0) :: acc) && allP f j k (inner.getD (7 - j) (0, 0) :: acc)
theorem allP_node {f : List Pt → Bool} {j k : Nat} {acc : List Pt} (h1 : j < k + 1 ∨ allP f j (k + 1) acc = true) (h2 : allP f j k (around.getD (7 - j) (0, 0) :: acc) = true) (h3 : allP f j k (inner.getD (7 - j) (0, 0) :: acc) = true) : allP f (j + 1) (k + 1) acc = true := by
  rw [allP, h2, h3]
  simpa using h1
/-- what shape does with its numbers, from place 8 - j on -/
def goS (by' : List Nat) : Nat → Nat → List Pt → List Pt
  | _, 0, acc => acc.reverse
  | 0, _ + 1, acc => acc.reverse
  | j + 1, k + 1, acc =>
    if k + 1 ≤ j ∧ by'.getD (7 - j) 0 % 3 = 0 then goS by' j (k + 1) acc
    else if by'.getD (7 - j) 0 % 3 = 1 then goS by' j k (inner.getD (7 - j) (0, 0) :: acc) else goS by' j k (around.getD (7 - j) (0, 0) :: acc)
theorem all_go {f : List Pt → Bool} (by' : List Nat) : ∀ (j k : Nat) (acc : List Pt), k ≤ j → allP f j k acc = true → f (goS by' j k acc) = true := by
  intro j
  induction j with
  | zero =>
    intro k acc hk h
    obtain rfl : k = 0 := by omega
    simpa [allP, goS] using h
  | succ j ih =>
    intro k acc hk h
    cases k with
    | zero => simpa [allP, goS] using h
    | succ k =>
      rw [allP] at h
      simp only [Bool.and_eq_true, Bool.or_eq_true, decide_eq_true_eq] at h
      obtain ⟨⟨h1, h2⟩, h3⟩ := h
      rw [goS]
      split
      · next hs =>
        rcases h1 with h1 | h1
        · omega
        · exact ih (k + 1) acc hs.1 h1
      · split
        · exact ih k _ (by omega) h3
        · exact ih k _ (by omega) h2
end Du
end Go.Proofs.YtkbfmogjhjdjmaaDoor
