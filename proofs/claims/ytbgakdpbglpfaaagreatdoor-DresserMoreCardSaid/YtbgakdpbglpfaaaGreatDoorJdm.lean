/- The texts DrP to DrL, joined by joinlist.py: their statements say what each proves. -/
import Derived.Lib.Split
import Derived.Test.YtbgakdpbglpfaaaGreatDoorPkP
import Derived.Maps.OwnOps
import Derived.MapKept
import Derived.ChangeMaps5
import Derived.Test.YtbgakdpbglpfaaaGreatDoorKit
import Derived.Test.YtbgakdpbglpfaaaGreatDoorProg
import Derived.Deep.AppendLies
import Derived.Test.YtbgakdpbglpfaaaGreatDoorJpu
-- the text DrP
namespace Go.Proofs.YtbgakdpbglpfaaaGreatDoor
namespace Dr
/-- the pieces between bytes c -/
def splitL (c : UInt8) : List UInt8 → List (List UInt8)
  | [] => [[]]
  | x :: l => if x == c then [] :: splitL c l else match splitL c l with
    | [] => [[x]]
    | w :: ws => (x :: w) :: ws
def okC (c : UInt8) : Bool := decide (33 ≤ c.toNat) && decide (c.toNat ≤ 126)
def lowC (c : UInt8) : Bool := decide (97 ≤ c.toNat) && decide (c.toNat ≤ 122)
def digC (c : UInt8) : Bool := decide (48 ≤ c.toNat) && decide (c.toNat ≤ 57)
def wordB (w : List UInt8) : Bool := !w.isEmpty && w.all okC
def isName (w : List UInt8) : Bool := !w.isEmpty && decide (w.length ≤ 10) && w.all lowC
def valL (w : List UInt8) : Nat := w.foldl (fun n c => 10 * n + (c.toNat - 48)) 0
def numOf (w : List UInt8) (most : Nat) : Option Nat :=
  if w.isEmpty || decide (most < w.length) || (decide (1 < w.length) && w.head? == some 48) then none
  else if w.all digC then some (valL w) else none
/-- is the number in the range of its letter: s 115, k 107, c 99 -/
def fitsK (c : UInt8) (n : Nat) : Bool :=
  if c == 115 then decide (0 < n) && decide (n ≤ 30) else if c == 107 then decide (0 < n) && decide (n ≤ 40) else if c == 99 then decide (n ≤ 40) else decide (0 < n)
/-- what a line tells -/
inductive Deed where
  | found (d : ByteArray)
  | size (d : ByteArray) (s : Nat)
  | buy (d : ByteArray) (s k : Nat)
  | order (o d : ByteArray) (n : Nat)
  | back (o : ByteArray)
  | moth (d : ByteArray) (s : Nat)
  | count (d : ByteArray) (s k : Nat)
  | lock (d : ByteArray) (b : Bool)
  deriving DecidableEq
/-- the kinds of lines: 0 for none -/
def kindP (w : List UInt8) : Nat :=
  if w == [100, 114, 97, 119, 101, 114] then 1 else if w == [115, 105, 122, 101] then 2 else if w == [98, 117, 121] then 3 else if w == [111, 114, 100, 101, 114] then 4
  else if w == [98, 97, 99, 107] then 5 else if w == [109, 111, 116, 104] then 6 else if w == [99, 111, 117, 110, 116] then 7 else if w == [115, 104, 117, 116] then 8 else if w == [111, 112, 101, 110] then 9 else 0
def formP : Nat → List UInt8
  | 1 => [87]
  | 2 => [87, 115]
  | 3 => [87, 115, 107]
  | 4 => [87, 87, 110]
  | 5 => [87]
  | 6 => [87, 115]
  | 7 => [87, 115, 99]
  | 8 => [87]
  | 9 => [87]
  | _ => []
def madeP (k : Nat) (ns : List (List UInt8)) (xs : List Nat) : Deed :=
  let n (i : Nat) : ByteArray := ⟨(ns.getD i []).toArray⟩
  let x (i : Nat) : Nat := xs.getD i 0
  match k with
  | 1 => .found (n 0)
  | 2 => .size (n 0) (x 0)
  | 3 => .buy (n 0) (x 0) (x 1)
  | 4 => .order (n 0) (n 1) (x 0)
  | 5 => .back (n 0)
  | 6 => .moth (n 0) (x 0)
  | 7 => .count (n 0) (x 0) (x 1)
  | 8 => .lock (n 0) true
  | _ => .lock (n 0) false
/-- the words behind the first one -/
def argsP : List UInt8 → List (List UInt8) → List (List UInt8) → List Nat → Int → Int × List (List UInt8) × List Nat
  | c :: f, w :: ws, ns, xs, e =>
    if c == 87 then (if isName w then argsP f ws (ns ++ [w]) xs e else (8, [], []))
    else match numOf w 3 with
      | none => (9, [], [])
      | some n => argsP f ws ns (xs ++ [n]) (if fitsK c n then e else 1)
  | _, _, ns, xs, e => (e, ns, xs)
/-- what a line tells, or its error -/
def readL (l : List UInt8) : Int × Deed :=
  if 40 < l.length then (19, .back ⟨#[]⟩) else
  let ws := splitL 32 l
  if !(ws.all wordB) then (9, .back ⟨#[]⟩) else
  match ws with
  | [] => (10, .back ⟨#[]⟩)
  | w :: ws =>
    if kindP w = 0 then (10, .back ⟨#[]⟩) else
    if ws.length ≠ (formP (kindP w)).length then (5, .back ⟨#[]⟩) else
    let r := argsP (formP (kindP w)) ws [] [] 0
    if r.1 ≠ 0 then (r.1, .back ⟨#[]⟩) else (0, madeP (kindP w) r.2.1 r.2.2)
def readP (line : ByteArray) : Int × Deed := readL line.data.toList

structure Chest where
  sizes : List Nat
  stock : List Nat
  shut : Bool
  bought : Nat
  eaten : Nat
  out : List ByteArray
  deriving DecidableEq
structure Parcel where
  drawer : ByteArray
  packets : List Nat
  deriving DecidableEq
structure House where
  chests : List (ByteArray × Chest)
  out : List (ByteArray × Parcel)
  used : List ByteArray
  deriving DecidableEq
def lk {α : Type} (k : ByteArray) : List (ByteArray × α) → Option α
  | [] => none
  | (k', v) :: l => if k' = k then some v else lk k l
def setA {α : Type} (k : ByteArray) (v : α) : List (ByteArray × α) → List (ByteArray × α)
  | [] => []
  | (k', v') :: l => if k' = k then (k, v) :: l else (k', v') :: setA k v l
def delA {α : Type} (k : ByteArray) : List (ByteArray × α) → List (ByteArray × α)
  | [] => []
  | (k', v') :: l => if k' = k then l else (k', v') :: delA k l
def hasB (o : ByteArray) (l : List ByteArray) : Bool := l.any fun x => decide (x = o)
def pos (s : Nat) (l : List Nat) : Nat := l.countP (· < s)
def House.set (h : House) (k : ByteArray) (c : Chest) : House := { h with chests := setA k c h.chests }
def newChest : Chest := ⟨[], [], false, 0, 0, []⟩
def insAt (i x : Nat) (l : List Nat) : List Nat := l.take i ++ x :: l.drop i
/-- the filling of an order: none if there is none -/
def fillP (ss ms : List Nat) (n : Nat) : Option (List Nat) :=
  if ss.isEmpty then none else if (fewL n (ss.zip ms)).getD n 0 = 1001 then none else some ((takeL n (ss.zip ms) n).map Int.toNat)
def packsP (ss l : List Nat) : List Nat := (ss.zip l).flatMap fun p => List.replicate p.2 p.1
/-- packets come back one by one: none if there are too many -/
def backP (ss : List Nat) : List Nat → List Nat → Option (List Nat)
  | [], ms => some ms
  | s :: l, ms => if 40 < ms.getD (pos s ss) 0 + 1 then none else backP ss l (ms.set (pos s ss) (ms.getD (pos s ss) 0 + 1))
/-- a deed is done in a house: its error (then the house stands), and the house behind it -/
def doP (h : House) : Deed → Int × House
  | .found d =>
    if (lk d h.chests).isSome then (6, h) else if h.chests.length = 4 then (3, h) else (0, { h with chests := h.chests ++ [(d, newChest)] })
  | .size d s => match lk d h.chests with
    | none => (2, h)
    | some c => if c.shut then (20, h) else if c.sizes.contains s then (6, h) else if c.sizes.length = 5 then (3, h)
      else (0, h.set d { c with sizes := insAt (pos s c.sizes) s c.sizes, stock := insAt (pos s c.sizes) 0 c.stock })
  | .buy d s k => match lk d h.chests with
    | none => (2, h)
    | some c => if c.shut then (20, h) else if !c.sizes.contains s then (2, h) else if 40 < c.stock.getD (pos s c.sizes) 0 + k then (15, h)
      else (0, h.set d { c with stock := c.stock.set (pos s c.sizes) (c.stock.getD (pos s c.sizes) 0 + k), bought := c.bought + k * s })
  | .order o d n => if hasB o h.used then (6, h) else match lk d h.chests with
    | none => (2, h)
    | some c => if c.shut then (20, h) else match fillP c.sizes c.stock n with
      | none => (12, h)
      | some l => (0, { h.set d { c with stock := List.zipWith (· - ·) c.stock l, out := c.out ++ [o] } with out := h.out ++ [(o, ⟨d, packsP c.sizes l⟩)], used := h.used ++ [o] })
  | .back o => match lk o h.out with
    | none => (2, h)
    | some p => match lk p.drawer h.chests with
      | none => (2, h)
      | some c => if c.shut then (20, h) else match backP c.sizes p.packets c.stock with
        | none => (15, h)
        | some ms => (0, { h.set p.drawer { c with stock := ms, out := c.out.filter (fun x => decide (x ≠ o)) } with out := delA o h.out })
  | .moth d s => match lk d h.chests with
    | none => (2, h)
    | some c => if c.shut then (20, h) else if !c.sizes.contains s then (2, h) else if c.stock.getD (pos s c.sizes) 0 = 0 then (4, h)
      else (0, h.set d { c with stock := c.stock.set (pos s c.sizes) (c.stock.getD (pos s c.sizes) 0 - 1), eaten := c.eaten + s })
  | .count d s k => match lk d h.chests with
    | none => (2, h)
    | some c => if !c.sizes.contains s then (2, h) else if c.stock.getD (pos s c.sizes) 0 ≠ k then (13, h) else (0, h)
  | .lock d b => match lk d h.chests with
    | none => (2, h)
    | some c => if c.shut && b then (20, h) else if !c.shut && !b then (21, h) else (0, h.set d { c with shut := b })
structure Book where
  house : House
  lines : List ByteArray
  deriving DecidableEq
def Book.new : Book := ⟨⟨[], [], []⟩, []⟩
/-- what Would returns -/
def Book.would (b : Book) (line : ByteArray) : Int :=
  let r := readP line
  if r.1 ≠ 0 then r.1 else
  let q := doP b.house r.2
  if q.1 ≠ 0 then q.1 else if b.lines.length = 100 then 16 else 0
def Book.done (b : Book) (line : ByteArray) : Book :=
  if b.would line = 0 then ⟨(doP b.house (readP line).2).2, b.lines ++ [line]⟩ else b
def Book.told (ls : List ByteArray) : Book := ls.foldl Book.done Book.new
def Book.undo (b : Book) : Int × Book := if b.lines.isEmpty then (4, b) else (0, Book.told b.lines.dropLast)
end Dr
end Go.Proofs.YtbgakdpbglpfaaaGreatDoor
-- the text MapS
namespace Go.Proofs.YtbgakdpbglpfaaaGreatDoor
open Go.RowKit Go.ChangeMaps Go.MapKept
def keyIs (k : ByteArray) : Value → Bool
  | .string s => decide (s = k)
  | _ => false
theorem keyIs_iff {k : ByteArray} {v : Value} : keyIs k v = true ↔ v = .string k := by
  cases v <;> simp [keyIs]
theorem keyIs_str {k q : ByteArray} : keyIs k (.string q) = true ↔ q = k := by simp [keyIs]
/-- the entry of a key -/
def findS (k : ByteArray) : List MapEntry → Nat → Option (Nat × Value)
  | [], _ => none
  | e :: es, i => if keyIs k e.key then some (i, e.val) else findS k es (i + 1)
def KeysS (es : List MapEntry) : Prop := ∀ e ∈ es, ∃ k, e.key = .string k
def valS (es : List MapEntry) (k : ByteArray) : Option Value := (findS k es 0).map (·.2)
/-- block b is a map whose keys are strings; it gives f -/
def MapS (w : World) (b : Nat) (f : ByteArray → Option Value) : Prop :=
  ∃ es clock, w.heap[b]? = some (.map es clock) ∧ KeysS es.toList ∧ (es.toList.map (·.key)).Nodup ∧ (∀ e ∈ es.toList, e.born < clock) ∧ ∀ k, valS es.toList k = f k
theorem findS_shift (k : ByteArray) : ∀ (es : List MapEntry) (i : Nat), findS k es i = (findS k es 0).map fun p => (i + p.1, p.2) := by
  intro es
  induction es with
  | nil => intro i; rfl
  | cons e es ih =>
    intro i
    unfold findS
    by_cases h : keyIs k e.key = true
    · rw [if_pos h, if_pos h]; rfl
    · rw [if_neg h, if_neg h, ih (i + 1), ih (0 + 1)]
      cases findS k es 0 with
      | none => rfl
      | some p => simp; omega
theorem valS_cons (k : ByteArray) (e : MapEntry) (es : List MapEntry) : valS (e :: es) k = if keyIs k e.key then some e.val else valS es k := by
  unfold valS
  rw [findS]
  by_cases h : keyIs k e.key = true
  · rw [if_pos h, if_pos h]; rfl
  · rw [if_neg h, if_neg h, findS_shift k es (0 + 1)]
    cases findS k es 0 <;> rfl
theorem findNow_S {es : List MapEntry} (h : KeysS es) (k : ByteArray) : ∀ i, Instr.findNow .string (.string k) es i = some (findS k es i) := by
  induction es with
  | nil => intro i; rfl
  | cons e es ih =>
    intro i
    obtain ⟨q, hq⟩ := h e (by simp)
    unfold Instr.findNow findS
    rw [hq]
    simp only [Instr.sameNow]
    by_cases hk : k = q
    · rw [(bytes_beq k q).2 hk, if_pos (keyIs_str.2 hk.symm)]
    · have hb : (k == q) = false := by
        rw [Bool.eq_false_iff]
        exact fun h => hk ((bytes_beq k q).1 h)
      rw [hb, if_neg (fun h => hk (keyIs_str.1 h).symm)]
      exact ih (fun e' h' => h e' (by simp [h'])) (i + 1)
theorem findS_none {es : List MapEntry} {k : ByteArray} : ∀ {i : Nat}, findS k es i = none ↔ ∀ e ∈ es, e.key ≠ .string k := by
  induction es with
  | nil => intro i; simp [findS]
  | cons e es ih =>
    intro i
    unfold findS
    by_cases h : keyIs k e.key = true
    · rw [if_pos h]
      simp [keyIs_iff.1 h]
    · rw [if_neg h, ih]
      have : e.key ≠ .string k := fun h' => h (keyIs_iff.2 h')
      simp [this]
theorem findS_some {es : List MapEntry} {k : ByteArray} {j : Nat} {v : Value} : ∀ {i : Nat}, findS k es i = some (j, v) → ∃ e, i ≤ j ∧ es[j - i]? = some e ∧ e.key = .string k ∧ e.val = v := by
  induction es with
  | nil => intro i h; simp [findS] at h
  | cons e es ih =>
    intro i h
    unfold findS at h
    by_cases hk : keyIs k e.key = true
    · rw [if_pos hk] at h
      injection h with h
      injection h with h1 h2
      subst h1 h2
      exact ⟨e, Nat.le_refl _, by simp, keyIs_iff.1 hk, rfl⟩
    · rw [if_neg hk] at h
      obtain ⟨e', h1, h2, h3, h4⟩ := ih h
      refine ⟨e', by omega, ?_, h3, h4⟩
      rw [show j - i = (j - (i + 1)) + 1 by omega]; simpa using h2
theorem valS_none {es : List MapEntry} {k : ByteArray} : valS es k = none ↔ ∀ e ∈ es, e.key ≠ .string k := by
  unfold valS
  rw [Option.map_eq_none_iff, findS_none]
theorem keyIs_ne {k q : ByteArray} {v : Value} (h : keyIs k v = true) (hne : q ≠ k) : ¬ keyIs q v = true := fun h' => by
  rw [keyIs_iff] at h h'
  rw [h] at h'
  injection h' with h'
  exact hne h'.symm
theorem valS_push {es : List MapEntry} {k q : ByteArray} {v : Value} {c : Nat} (h : valS es k = none) : valS (es ++ [{ key := .string k, val := v, born := c }]) q = if q = k then some v else valS es q := by
  induction es with
  | nil =>
    rw [List.nil_append, valS_cons]
    by_cases hq : q = k
    · rw [if_pos hq, if_pos (keyIs_str.2 hq.symm)]
    · rw [if_neg hq, if_neg (fun h => hq (keyIs_str.1 h).symm)]
  | cons e es ih =>
    rw [valS_cons] at h
    rw [List.cons_append, valS_cons, valS_cons]
    by_cases he : keyIs k e.key = true
    · rw [if_pos he] at h; cases h
    · rw [if_neg he] at h
      rw [ih h]
      by_cases hq : keyIs q e.key = true
      · rw [if_pos hq, if_pos hq]
        have : q ≠ k := fun e' => he (by rw [← e']; exact hq)
        rw [if_neg this]
      · rw [if_neg hq, if_neg hq]
theorem valS_modify {es : List MapEntry} {k q : ByteArray} {v v0 : Value} : ∀ {i : Nat}, findS k es 0 = some (i, v0) → valS (es.modify i fun e => { e with key := .string k, val := v }) q = if q = k then some v else valS es q := by
  induction es with
  | nil => intro i h; simp [findS] at h
  | cons e es ih =>
    intro i h
    unfold findS at h
    by_cases he : keyIs k e.key = true
    · rw [if_pos he] at h
      injection h with h
      injection h with h1 h2
      subst h1
      rw [List.modify_zero_cons, valS_cons, valS_cons]
      by_cases hq : q = k
      · rw [if_pos hq, if_pos (keyIs_str.2 hq.symm)]
      · rw [if_neg hq, if_neg (fun h => hq (keyIs_str.1 h).symm), if_neg (keyIs_ne he hq)]
    · rw [if_neg he, findS_shift k es (0 + 1)] at h
      cases hf : findS k es 0 with
      | none => rw [hf] at h; cases h
      | some p =>
        obtain ⟨j, u⟩ := p
        rw [hf] at h
        simp at h
        obtain ⟨rfl, rfl⟩ := h
        rw [show 1 + j = j + 1 by omega, List.modify_succ_cons, valS_cons, valS_cons, ih hf]
        by_cases hq : keyIs q e.key = true
        · rw [if_pos hq, if_pos hq]
          have : q ≠ k := fun e' => he (by rw [← e']; exact hq)
          rw [if_neg this]
        · rw [if_neg hq, if_neg hq]
theorem valS_erase {es : List MapEntry} {k q : ByteArray} {v0 : Value} (hd : (es.map (·.key)).Nodup) : ∀ {i : Nat}, findS k es 0 = some (i, v0) → valS (es.eraseIdx i) q = if q = k then none else valS es q := by
  induction es with
  | nil => intro i h; simp [findS] at h
  | cons e es ih =>
    intro i h
    rw [List.map_cons, List.nodup_cons] at hd
    unfold findS at h
    by_cases he : keyIs k e.key = true
    · rw [if_pos he] at h
      injection h with h
      injection h with h1 h2
      subst h1
      rw [List.eraseIdx_zero, List.tail_cons, valS_cons]
      by_cases hq : q = k
      · subst hq
        rw [if_pos rfl, valS_none]
        intro e' h' h2
        exact hd.1 (List.mem_map.2 ⟨e', h', by rw [h2, keyIs_iff.1 he]⟩)
      · rw [if_neg hq, if_neg (keyIs_ne he hq)]
    · rw [if_neg he, findS_shift k es (0 + 1)] at h
      cases hf : findS k es 0 with
      | none => rw [hf] at h; cases h
      | some p =>
        obtain ⟨j, u⟩ := p
        rw [hf] at h
        simp at h
        obtain ⟨rfl, rfl⟩ := h
        rw [show 1 + j = j + 1 by omega, List.eraseIdx_cons_succ, valS_cons, valS_cons, ih hd.2 hf]
        by_cases hq : keyIs q e.key = true
        · rw [if_pos hq, if_pos hq]
          have : q ≠ k := fun e' => he (by rw [← e']; exact hq)
          rw [if_neg this]
        · rw [if_neg hq, if_neg hq]
section
variable {P : Program} {w w' : World} {b : Nat} {f : ByteArray → Option Value} {t k e : TypeId}
theorem MapS.lt (h : MapS w b f) : b < w.heap.size := by
  obtain ⟨es, clock, hb, _⟩ := h
  exact (Array.getElem?_eq_some_iff.1 hb).1
theorem MapS.same (h : MapS w b f) (hb : w'.heap[b]? = w.heap[b]?) : MapS w' b f := by
  obtain ⟨es, clock, h1, h2⟩ := h
  exact ⟨es, clock, hb.trans h1, h2⟩
theorem MapS.made (w : World) : MapS (w.alloc (.map #[] 0)) w.heap.size (fun _ => none) :=
  ⟨#[], 0, heap_alloc_new w _, by intro e h; simp at h, by simp, by intro e h; simp at h, fun k => rfl⟩
theorem MapS.congr {f' : ByteArray → Option Value} (h : MapS w b f) (hf : ∀ k, f k = f' k) : MapS w b f' := by
  obtain ⟨es, clock, h1, h2, h3, hst, h4⟩ := h
  exact ⟨es, clock, h1, h2, h3, hst, fun k => (h4 k).trans (hf k)⟩
theorem MapS.blk_ne {g : Nat} {ty : TypeId} {cs : Array Value} (h : MapS w b f) (hB : Blk w g ty cs) : g ≠ b := by
  rintro rfl
  obtain ⟨es, clock, h1, _⟩ := h
  unfold Blk at hB
  rw [h1] at hB
  cases hB
theorem checkKey_S (hk : P.underlying k = some .string) (em : Bool) (s : ByteArray) (w : World) : (Instr.checkKey em 10000 k (.string s)).run P w = .ok () w := by
  show (Instr.checkKey em (9999 + 1) k (.string s)).run P w = .ok () w
  rw [Instr.checkKey, Sem.run_bind, run_underlying hk]
  rfl
theorem findKey_S (hk : P.underlying k = some .string) {es : List MapEntry} (h : KeysS es) (s : ByteArray) (w : World) : (Instr.findKey k (.string s) es).run P w = .ok (findS s es 0) w := by
  rw [Instr.findKey, Sem.run_bind, run_underlying hk]
  simp only [Result.andThen_ok, findNow_S h]
  rfl
theorem MapS.look (h : MapS w b f) (ht : P.underlying t = some (.map k e)) (hk : P.underlying k = some .string) {z : Value} (hz : (zeroValue e).run P w = .ok z w) (s : ByteArray) (c : Bool) :
    (Instr.lookup t (.map (some b)) (.string s) c).run P w = .ok (if c then .tuple #[(f s).getD z, .bool (f s).isSome] else (f s).getD z) w := by
  obtain ⟨es, clock, h1, h2, h3, hst, h4⟩ := h
  rw [← h4 s, valS]
  cases hf : findS s es.toList 0 with
  | none => simp [Instr.lookup, run_underlying ht, MapKept.run_getObj_map h1, checkKey_S hk, findKey_S hk h2, hf, hz, Result.andThen]
  | some p => simp [Instr.lookup, run_underlying ht, MapKept.run_getObj_map h1, checkKey_S hk, findKey_S hk h2, hf, Result.andThen]
theorem sameBits_string (s : ByteArray) : Instr.sameBits 10000 (.string s) (.string s) = true := by
  show (s == s) = true
  exact (bytes_beq s s).2 rfl
theorem keys_modify {es : List MapEntry} {i : Nat} {v v0 : Value} {s : ByteArray} (h : findS s es 0 = some (i, v0)) : (es.modify i fun e => { e with key := .string s, val := v }).map (·.key) = es.map (·.key) := by
  obtain ⟨e, _, h2, h3, _⟩ := findS_some h
  simp only [Nat.sub_zero] at h2
  apply List.ext_getElem?
  intro j
  rw [List.getElem?_map, List.getElem?_map, List.getElem?_modify]
  by_cases hj : i = j
  · subst hj
    rw [h2]
    simp [h3]
  · simp [hj]
theorem MapS.put (h : MapS w b f) (ht : P.underlying t = some (.map k e)) (hk : P.underlying k = some .string) (s : ByteArray) (v : Value) :
    ∃ w', (Instr.mapUpdate t (.map (some b)) (.string s) v).run P w = .ok () w' ∧ MapS w' b (fun x => if x = s then some v else f x) ∧ w.grownBy w' (some b) := by
  obtain ⟨es, clock, h1, h2, h3, hst, h4⟩ := h
  have hg : ∀ o : Obj, w.grownBy (setBlock w b o) (some b) := fun o => ⟨rfl, rfl, rfl, by simp [setBlock], fun i _ hi => heap_setBlock_other h1 _ (fun e => hi (by rw [e]))⟩
  cases hf : findS s es.toList 0 with
  | none =>
    refine ⟨setBlock w b (.map (es.push { key := .string s, val := v, born := clock }) (clock + 1)), ?_, ⟨_, _, heap_setBlock_same h1 _, ?_, ?_, ?_, ?_⟩, hg _⟩
    · simp [Instr.mapUpdate, run_underlying ht, MapKept.run_getObj_map h1, checkKey_S hk, findKey_S hk h2, hf, MapKept.run_setObj_map _ h1, Result.andThen, setBlock]
    · intro e' he'
      rw [Array.toList_push, List.mem_append] at he'
      rcases he' with he' | he'
      · exact h2 e' he'
      · simp at he'; subst he'; exact ⟨s, rfl⟩
    · rw [Array.toList_push, List.map_append, List.nodup_append]
      refine ⟨h3, by simp, ?_⟩
      intro a ha c hc
      simp at hc
      subst hc
      obtain ⟨e', he', rfl⟩ := List.mem_map.1 ha
      exact findS_none.1 hf e' he'
    · intro e' he'
      rw [Array.toList_push, List.mem_append] at he'
      rcases he' with he' | he'
      · have := hst e' he'; omega
      · simp at he'; subst he'; exact Nat.lt_succ_self _
    · intro q
      rw [Array.toList_push, valS_push (by rw [valS, hf]; rfl), h4]
  | some p =>
    obtain ⟨i, v0⟩ := p
    obtain ⟨e', _, p2, p3, p4⟩ := findS_some hf
    simp only [Nat.sub_zero] at p2
    have p2' : es[i]? = some e' := by rw [← Array.getElem?_toList]; exact p2
    refine ⟨setBlock w b (.map (es.modify i fun e => { e with key := .string s, val := v }) clock), ?_, ⟨_, _, heap_setBlock_same h1 _, ?_, ?_, ?_, ?_⟩, hg _⟩
    · simp [Instr.mapUpdate, run_underlying ht, MapKept.run_getObj_map h1, checkKey_S hk, findKey_S hk h2, hf, MapKept.run_setObj_map _ h1, Result.andThen, setBlock, Instr.keyThatStays, p2', p3, sameBits_string]
    · intro e1 he1
      have : e1.key ∈ (es.modify i fun e => { e with key := .string s, val := v }).toList.map (·.key) := List.mem_map.2 ⟨e1, he1, rfl⟩
      rw [Array.toList_modify, keys_modify hf] at this
      obtain ⟨e2, he2, h5⟩ := List.mem_map.1 this
      obtain ⟨q, hq⟩ := h2 e2 he2
      exact ⟨q, by rw [← h5, hq]⟩
    · rw [Array.toList_modify, keys_modify hf]
      exact h3
    · intro e1 he1
      rw [Array.toList_modify] at he1
      obtain ⟨j, hj⟩ := List.getElem?_of_mem he1
      rw [List.getElem?_modify] at hj
      cases hq : es.toList[j]? with
      | none => rw [hq] at hj; simp at hj
      | some e2 =>
        have hm := hst e2 (List.mem_of_getElem? hq)
        rw [hq] at hj
        split at hj
        · simp at hj; subst hj; exact hm
        · simp at hj; subst hj; exact hm
    · intro q
      rw [Array.toList_modify, valS_modify hf, h4]
theorem MapS.del (h : MapS w b f) {ty : TypeId} (ht : P.underlying t = some (.map k e)) (hk : P.underlying k = some .string) (s : ByteArray) (kt : TypeId) :
    ∃ w', (Builtin.delete_ #[t, kt] ty #[.map (some b), .string s]).run P w = .ok (.tuple #[]) w' ∧ MapS w' b (fun x => if x = s then none else f x) ∧ w.grownBy w' (some b) := by
  obtain ⟨es, clock, h1, h2, h3, hst, h4⟩ := h
  have hg : ∀ o : Obj, w.grownBy (setBlock w b o) (some b) := fun o => ⟨rfl, rfl, rfl, by simp [setBlock], fun i _ hi => heap_setBlock_other h1 _ (fun e => hi (by rw [e]))⟩
  cases hf : findS s es.toList 0 with
  | none =>
    refine ⟨setBlock w b (.map es clock), ?_, ⟨_, _, heap_setBlock_same h1 _, h2, h3, hst, ?_⟩, hg _⟩
    · simp [Builtin.delete_, run_underlying ht, MapKept.run_getObj_map h1, checkKey_S hk, findKey_S hk h2, hf, MapKept.run_setObj_map _ h1, Result.andThen, setBlock]
    · intro q
      show valS es.toList q = if q = s then none else f q
      by_cases hq : q = s
      · subst hq
        rw [if_pos rfl, valS, hf]; rfl
      · rw [if_neg hq, h4]
  | some p =>
    obtain ⟨i, v0⟩ := p
    obtain ⟨e', _, p2, _⟩ := findS_some hf
    simp only [Nat.sub_zero] at p2
    have hsub : (es.eraseIdxIfInBounds i).toList = es.toList.eraseIdx i := by
      have : i < es.size := by simpa using (List.getElem?_eq_some_iff.1 p2).1
      unfold Array.eraseIdxIfInBounds
      rw [dif_pos this]
      simp
    refine ⟨setBlock w b (.map (es.eraseIdxIfInBounds i) clock), ?_, ⟨_, _, heap_setBlock_same h1 _, ?_, ?_, ?_, ?_⟩, hg _⟩
    · simp [Builtin.delete_, run_underlying ht, MapKept.run_getObj_map h1, checkKey_S hk, findKey_S hk h2, hf, MapKept.run_setObj_map _ h1, Result.andThen, setBlock]
    · intro e1 he1
      rw [hsub] at he1
      exact h2 e1 (List.mem_of_mem_eraseIdx he1)
    · rw [hsub]
      exact h3.sublist ((List.eraseIdx_sublist _ _).map _)
    · intro e1 he1
      rw [hsub] at he1
      exact hst e1 (List.mem_of_mem_eraseIdx he1)
    · intro q
      rw [hsub, valS_erase h3 hf, h4]
theorem MapS.clear (h : MapS w b f) {ty : TypeId} (ht : P.underlying t = some (.map k e)) :
    ∃ w', (Builtin.clear_ #[t] ty #[.map (some b)]).run P w = .ok (.tuple #[]) w' ∧ MapS w' b (fun _ => none) ∧ w.grownBy w' (some b) := by
  obtain ⟨es, clock, h1, h2, h3, hst, h4⟩ := h
  refine ⟨setBlock w b (.map #[] clock), ?_, ⟨_, _, heap_setBlock_same h1 _, by intro e h; simp at h, by simp, by intro e h; simp at h, fun k => rfl⟩, ⟨rfl, rfl, rfl, by simp [setBlock], fun i _ hi => heap_setBlock_other h1 _ (fun e => hi (by rw [e]))⟩⟩
  simp [Builtin.clear_, run_underlying ht, MapKept.run_getObj_map h1, MapKept.run_setObj_map _ h1, Result.andThen, setBlock]
/-- .. in which the entry of s bears the stamp st -/
def MapE (w : World) (b : Nat) (f : ByteArray → Option Value) (s : ByteArray) (st : Nat) : Prop :=
  ∃ (es : Array MapEntry) (clock : Nat), w.heap[b]? = some (.map (es.push { key := .string s, val := (f s).getD undef, born := st }) (clock + 1)) ∧ KeysS es.toList ∧ (es.toList.map (·.key)).Nodup ∧ (∀ e ∈ es.toList, e.born < clock) ∧ st = clock ∧ valS es.toList s = none ∧ ∀ k, k ≠ s → valS es.toList k = f k
theorem MapE.same {s : ByteArray} {st : Nat} (h : MapE w b f s st) (hb : w'.heap[b]? = w.heap[b]?) : MapE w' b f s st := by
  obtain ⟨es, clock, h1, h2⟩ := h
  exact ⟨es, clock, hb.trans h1, h2⟩
theorem MapE.blk_ne {s : ByteArray} {st : Nat} {g : Nat} {ty : TypeId} {cs : Array Value} (h : MapE w b f s st) (hB : Blk w g ty cs) : g ≠ b := by
  rintro rfl
  obtain ⟨es, clock, h1, _⟩ := h
  unfold Blk at hB
  rw [h1] at hB
  cases hB
/-- m[s] comes to be, with the zero value; its stamp -/
theorem MapS.entry (h : MapS w b f) (ht : P.underlying t = some (.map k e)) (hk : P.underlying k = some .string) {z : Value} (hz : ∀ w, (zeroValue e).run P w = .ok z w) (s : ByteArray) (hs : f s = none) :
    ∃ (w' : World) (st : Nat), (Instr.mapEntry t (.map (some b)) (.string s)).run P w = .ok (.tuple #[z, goInt st]) w' ∧ MapE w' b (fun x => if x = s then some z else f x) s st ∧ w.grownBy w' (some b) := by
  obtain ⟨es, clock, h1, h2, h3, hst, h4⟩ := h
  have hf : findS s es.toList 0 = none := by
    have := h4 s
    rw [hs, valS, Option.map_eq_none_iff] at this
    exact this
  refine ⟨setBlock w b (.map (es.push { key := .string s, val := z, born := clock }) (clock + 1)), clock, ?_, ⟨es, clock, ?_, h2, h3, hst, rfl, by rw [h4, hs], fun q hq => (h4 q).trans (if_neg hq).symm⟩, ⟨rfl, rfl, rfl, by simp [setBlock], fun i _ hi => heap_setBlock_other h1 _ (fun e => hi (by rw [e]))⟩⟩
  · simp [Instr.mapEntry, run_underlying ht, MapKept.run_getObj_map h1, checkKey_S hk, findKey_S hk h2, hf, hz, MapKept.run_setObj_map _ h1, Result.andThen, setBlock]
  · have e : ((fun x => if x = s then some z else f x) s).getD undef = z := by simp
    rw [e]
    exact heap_setBlock_same h1 _
theorem findIdx_push {es : Array MapEntry} {e0 : MapEntry} {p : MapEntry → Bool} (h : ∀ x ∈ es.toList, p x = false) (h0 : p e0 = true) : (es.push e0).findIdx? p = some es.size := by
  rw [Array.findIdx?_push]
  have : es.findIdx? p = none := by
    rw [Array.findIdx?_eq_none_iff]
    intro x hx
    exact h x (by simpa using hx)
  rw [this]
  simp [h0]
/-- .. and is stored into -/
theorem MapE.store {s : ByteArray} {st : Nat} (h : MapE w b f s st) (v : Value) :
    ∃ w', (Instr.entryStore t (.map (some b)) (goInt st) v).run P w = .ok () w' ∧ MapS w' b (fun x => if x = s then some v else f x) ∧ w.grownBy w' (some b) := by
  obtain ⟨es, clock, h1, h2, h3, hst, rfl, h5, h4⟩ := h
  obtain ⟨E, hE⟩ : ∃ E, es.push { key := .string s, val := (f s).getD undef, born := st } = E := ⟨_, rfl⟩
  have hfi : E.findIdx? (fun e => (e.born : Int) == (st : Int)) = some es.size := by
    rw [← hE]
    refine findIdx_push (fun x hx => ?_) (by simp)
    have := hst x hx
    simp; omega
  have hmod : E.modify es.size (fun e => { e with val := v }) = es.push { key := .string s, val := v, born := st } := by
    rw [← hE]
    apply Array.ext_getElem?
    intro i
    rw [Array.getElem?_modify, Array.getElem?_push, Array.getElem?_push]
    by_cases hi : es.size = i
    · subst hi; simp
    · rw [if_neg hi, if_neg (fun e => hi e.symm), if_neg (fun e => hi e.symm)]
  rw [hE] at h1
  refine ⟨setBlock w b (.map (E.modify es.size fun e => { e with val := v }) (st + 1)), ?_, ⟨_, _, heap_setBlock_same h1 _, ?_, ?_, ?_, ?_⟩, ⟨rfl, rfl, rfl, by simp [setBlock], fun i _ hi => heap_setBlock_other h1 _ (fun e => hi (by rw [e]))⟩⟩
  · simp [Instr.entryStore, MapKept.run_getObj_map h1, goInt, asInt, asIntOf, hfi, MapKept.run_setObj_map _ h1, Result.andThen, setBlock]
  · rw [hmod]
    intro e' he'
    rw [Array.toList_push, List.mem_append] at he'
    rcases he' with he' | he'
    · exact h2 e' he'
    · simp at he'; subst he'; exact ⟨s, rfl⟩
  · rw [hmod, Array.toList_push, List.map_append, List.nodup_append]
    refine ⟨h3, by simp, ?_⟩
    intro a ha c hc
    simp at hc
    subst hc
    obtain ⟨e', he', rfl⟩ := List.mem_map.1 ha
    exact valS_none.1 h5 e' he'
  · rw [hmod]
    intro e' he'
    rw [Array.toList_push, List.mem_append] at he'
    rcases he' with he' | he'
    · have := hst e' he'; omega
    · simp at he'; subst he'; exact Nat.lt_succ_self _
  · intro q
    rw [hmod, Array.toList_push, valS_push h5]
    show _ = if q = s then some v else f q
    by_cases hq : q = s
    · rw [if_pos hq, if_pos hq]
    · rw [if_neg hq, if_neg hq, h4 q hq]
end
end Go.Proofs.YtbgakdpbglpfaaaGreatDoor
-- the text StrS
namespace Go.Proofs.YtbgakdpbglpfaaaGreatDoor
open Go.RowKit
def strsV (ws : List ByteArray) : List Value := ws.map Value.string
theorem strsV_length (ws : List ByteArray) : (strsV ws).length = ws.length := by simp [strsV]
theorem strsV_get (ws : List ByteArray) (k : Nat) (h : k < ws.length) : (strsV ws)[k]? = some (.string ws[k]) := by
  simp [strsV, List.getElem?_eq_getElem h]
/-- a slice of strings that reads as a list -/
def RStrs (w : World) (B : Nat) (A : Option Addr) (n : Nat) (ws : List ByteArray) : Prop := Reads w B 1 A n (strsV ws)
section
variable {w w' : World} {B B' n : Nat} {A : Option Addr} {ws : List ByteArray}
theorem RStrs.none_ : RStrs w B A 0 [] := Reads.none_
theorem RStrs.below (h : RStrs w B A n ws) (hb : Below B w w') : RStrs w' B A n ws := Reads.below h hb
theorem RStrs.more (h : RStrs w B A n ws) (hB : B ≤ B') : RStrs w B' A n ws := Reads.more h hB
theorem RStrs.later (h : RStrs w B A n ws) (hB : B ≤ w.heap.size) (hb : Below w.heap.size w w') : RStrs w' B A n ws := Reads.below h (hb.mono hB)
theorem RStrs.len (h : RStrs w B A n ws) : ws.length = n := by
  have := h.1; simpa [strsV_length] using this
theorem RStrs.at_ {k : Nat} (h : RStrs w B A n ws) (hk : k < n) :
    ∃ ad s, A = some ad ∧ ad.block < B ∧ w.cell? (ad.add k) = some (.string s) ∧ Hid (ws[k]? = some s) := by
  obtain ⟨ad, u, e, hb, hx, hc⟩ := Reads.at_ h hk
  have hl : k < ws.length := by have := h.len; omega
  refine ⟨ad, ws[k], e, hb, ?_, List.getElem?_eq_getElem hl⟩
  rw [strsV_get ws k hl] at hx
  rw [hc, ← hx]
theorem RStrs.keep (h : RStrs w B A n ws) (hk : ∀ p : Addr, p.block < B → w'.cell? p = w.cell? p) : RStrs w' B A n ws := Reads.keep h hk
end
theorem infoStr : (Tryz.prog.info? 9).map (fun i => (i.zero, i.size, i.bytes)) = some (some (.string ⟨#[]⟩), 1, 16) := by kernel_rfl
/-- the slice value v is the call's own row that holds xs -/
def OwnS (w : World) (base : Nat) (v : Value) (xs : List ByteArray) : Prop := w.ownsRow base 9 1 v xs.length (strsV xs)
theorem strsV_append (xs ys : List ByteArray) : strsV (xs ++ ys) = strsV xs ++ strsV ys := by simp [strsV]
theorem RStrs.of_own {w : World} {base n : Nat} {A : Option Addr} {c : Nat} {xs : List ByteArray} (h : w.ownsRow base 9 1 (.slice A n c) n (strsV xs)) : RStrs w w.heap.size A n xs := Reads.of_own h
section
variable {w w' : World} {base : Nat} {v : Value} {xs : List ByteArray}
theorem OwnS.nil (w : World) (base : Nat) : OwnS w base (.slice none 0 0) [] := World.ownsRow_nil _ _ _ _
theorem OwnS.keep (h : OwnS w base v xs) (hk : ∀ g, v.ownBlock = some g → w'.heap[g]? = w.heap[g]?) : OwnS w' base v xs := by
  refine ⟨h.1, ?_⟩
  rcases h.2 with h0 | ⟨g, cap, cur, rfl, hb, hg, r⟩
  · exact .inl h0
  · exact .inr ⟨g, cap, cur, rfl, hb, (hk g rfl).trans hg, r⟩
theorem OwnS.lt (h : OwnS w base v xs) {g : Nat} (hg : v.ownBlock = some g) : g < w.heap.size := (World.ownsRow.lt h g hg).2
theorem OwnS.ge (h : OwnS w base v xs) {g : Nat} (hg : v.ownBlock = some g) : base ≤ g := (World.ownsRow.lt h g hg).1
theorem OwnS.callee (h : OwnS w base v xs) (hb : Below w.heap.size w w') : OwnS w' base v xs := h.keep fun g hg => hb.block g (h.lt hg)
theorem OwnS.none_ (h : OwnS w base v xs) (hb : w.grownBy w' none) : OwnS w' base v xs := h.keep fun g hg => hb.block g (h.lt hg) (by simp)
theorem OwnS.some_ (h : OwnS w base v xs) {k : Nat} (hb : w.grownBy w' (some k)) (hne : v.ownBlock ≠ some k) : OwnS w' base v xs := h.keep fun g hg => hb.block g (h.lt hg) (fun e => hne (by rw [hg, e]))
theorem OwnS.set_ (h : OwnS w base v xs) {p : Addr} (hne : v.ownBlock ≠ some p.block) (u : Value) : OwnS (w.setCell p u) base v xs := h.keep fun g hg => Below.heap_setCell w p u g (fun e => hne (by rw [hg, e]))
theorem OwnS.drew (h : OwnS w base v xs) : OwnS w.drew base v xs := h
theorem OwnS.drewN (h : OwnS w base v xs) (n : Nat) : OwnS (w.drewN n) base v xs := h
theorem OwnS.reads (h : OwnS w base v xs) : ∃ A c, v = .slice A xs.length c ∧ RStrs w w.heap.size A xs.length xs := by
  rcases h.2 with ⟨rfl, h0⟩ | ⟨g, cap, cur, rfl, hb, hg, r⟩
  · have : xs = [] := List.eq_nil_of_length_eq_zero h0
    subst this
    exact ⟨none, 0, rfl, RStrs.none_⟩
  · exact ⟨_, _, rfl, RStrs.of_own h⟩
theorem OwnS.blk_ne {g : Nat} {t : TypeId} {cs : Array Value} (h : OwnS w base v xs) (hg : Blk w g t cs) (hne : 9 ≠ t) : v.ownBlock ≠ some g := own_blk_ne h hg hne
theorem wp_pushS {o : Oper} {a : Act} {K : Act → World → Prop} {Q : Exit → Act → World → Prop} (s x : Operand)
    (ho : o.op = .call { callee := .builtin .append, args := #[s, x], argTypes := #[22, 22] }) (hs : a.eval s = v) (hown : OwnS w base v xs)
    (B c : Nat) (y : ByteArray) (hx : a.eval x = .slice (some ⟨B, 0, none⟩) 1 c) (hB : Blk w B 9 #[.string y]) (hlen : xs.length ≤ 1000000000) (hbase : base ≤ w.heap.size)
    (h : ∀ (g cap : Nat) (w' : World), OwnS w' base (.slice (some ⟨g, 0, none⟩) (xs.length + 1) cap) (xs ++ [y]) → w.grownBy w' v.ownBlock → (v.ownBlock = some g ∨ g = w.heap.size) → g < w'.heap.size → K (a.put o.dst (.slice (some ⟨g, 0, none⟩) (xs.length + 1) cap)) w') : o.wp Tryz.prog a w K Q := by
  obtain ⟨i0, hi0, hz0, hz1, hz2⟩ := info_parts infoStr
  refine wp_append_lies w s x 22 ho base 9 i0 (.string ⟨#[]⟩) 1 16 Tryz.underlying22 hi0 hz0 hz1 hz2 rfl (by decide) v xs.length (strsV xs) hs hown ⟨B, 0, none⟩ 1 c [.string y] hx rfl
    (World.news_of_block hB) (by simp [Value.oneCell']) (by decide) (by simp only [maxLen]; omega) (by omega) hbase _ rfl ?_
  intro g cap w' hown' hgr hat hlt
  refine h g cap w' ?_ hgr hat hlt
  unfold OwnS
  rw [strsV_append, List.length_append]
  exact hown'
theorem wpList_pushS {ops : Array Oper} {rest : List Oper} {o : Oper} {a : Act} {Q : Exit → Act → World → Prop} (hgd : o.guard = none) (s x : Operand)
    (ho : o.op = .call { callee := .builtin .append, args := #[s, x], argTypes := #[22, 22] }) (hs : a.eval s = v) (hown : OwnS w base v xs)
    (B c : Nat) (y : ByteArray) (hx : a.eval x = .slice (some ⟨B, 0, none⟩) 1 c) (hB : Blk w B 9 #[.string y]) (hlen : xs.length ≤ 1000000000) (hbase : base ≤ w.heap.size)
    (h : ∀ (g cap : Nat) (w' : World), OwnS w' base (.slice (some ⟨g, 0, none⟩) (xs.length + 1) cap) (xs ++ [y]) → w.grownBy w' v.ownBlock → (v.ownBlock = some g ∨ g = w.heap.size) → g < w'.heap.size → wpList Tryz.prog ops Q rest (a.put o.dst (.slice (some ⟨g, 0, none⟩) (xs.length + 1) cap)) w') : wpList Tryz.prog ops Q (o :: rest) a w :=
  wpList_plain hgd fun _ hK => wp_pushS s x ho hs hown B c y hx hB hlen hbase fun g cap w' h2 h3 h4 h5 => hK _ _ (h g cap w' h2 h3 h4 h5)
end
end Go.Proofs.YtbgakdpbglpfaaaGreatDoor
-- the text DrM
namespace Go.Proofs.YtbgakdpbglpfaaaGreatDoor
open Go.RowKit
namespace Dr
def natI (xs : List Nat) : List Int := xs.map fun x : Nat => (x : Int)
theorem natI_length (xs : List Nat) : (natI xs).length = xs.length := by simp [natI]
theorem natI_append (xs ys : List Nat) : natI (xs ++ ys) = natI xs ++ natI ys := by simp [natI]
/-- what the blocks of a house are for -/
inductive Role where
  | house | names | chests | out | used
  | chest (k : ByteArray) | sizes (k : ByteArray) | stock (k : ByteArray) | outs (k : ByteArray)
  | pack (o : ByteArray)
  deriving DecidableEq
abbrev Vals := Role → Value
def Vals.put (V : Vals) (r : Role) (v : Value) : Vals := fun q => if q = r then v else V q
theorem Vals.put_self (V : Vals) (r : Role) (v : Value) : V.put r v r = v := by simp [Vals.put]
theorem Vals.put_ne (V : Vals) {r q : Role} (v : Value) (h : q ≠ r) : V.put r v q = V q := by simp [Vals.put, h]
def blkOf : Value → Option Nat
  | .pointer (some a) => some a.block
  | .slice (some a) _ _ => some a.block
  | .map (some b) => some b
  | _ => none
def Foot (V : Vals) (i : Nat) : Prop := ∃ r, blkOf (V r) = some i
/-- a slice of ints, in a block of its own -/
abbrev OwnN (w : World) (v : Value) (xs : List Nat) : Prop := OwnI w 0 v (natI xs)
abbrev OwnT (w : World) (v : Value) (xs : List ByteArray) : Prop := OwnS w 0 v xs
structure ChestAt (w : World) (vc vs vk vo : Value) (c : Chest) : Prop where
  at_ : ∃ g, vc = .pointer (some ⟨g, 0, none⟩) ∧ Blk w g 103 #[vs, vk, .bool c.shut, .int .i64 (c.bought : Int), .int .i64 (c.eaten : Int), vo]
  sizes : OwnN w vs c.sizes
  stock : OwnN w vk c.stock
  out : OwnT w vo c.out
structure HouseAt (w : World) (V : Vals) (S : House) : Prop where
  inj : ∀ r r' g, blkOf (V r) = some g → blkOf (V r') = some g → r = r'
  hs : ∃ g, V .house = .pointer (some ⟨g, 0, none⟩) ∧ Blk w g 111 #[V .names, V .chests, V .out, V .used]
  nm : OwnT w (V .names) (S.chests.map (·.1))
  mc : ∃ g, V .chests = .map (some g) ∧ MapS w g (fun k => (lk k S.chests).map fun _ => V (.chest k))
  mo : ∃ g, V .out = .map (some g) ∧ MapS w g (fun o => (lk o S.out).map fun p => .agg #[.string p.drawer, V (.pack o)])
  mu : ∃ g, V .used = .map (some g) ∧ MapS w g (fun o => if hasB o S.used then some (.bool true) else none)
  ch : ∀ k c, lk k S.chests = some c → ChestAt w (V (.chest k)) (V (.sizes k)) (V (.stock k)) (V (.outs k)) c
  nc : ∀ k, lk k S.chests = none → blkOf (V (.chest k)) = none ∧ blkOf (V (.sizes k)) = none ∧ blkOf (V (.stock k)) = none ∧ blkOf (V (.outs k)) = none
  pk : ∀ o p, lk o S.out = some p → OwnN w (V (.pack o)) p.packets
  np : ∀ o, lk o S.out = none → blkOf (V (.pack o)) = none
theorem own_blk {w : World} {v : Value} {xs : List Int} (h : OwnI w 0 v xs) : v.ownBlock = blkOf v := by
  rcases h.2 with ⟨rfl, _⟩ | ⟨g, cap, cur, rfl, _⟩ <;> rfl
theorem own_blkS {w : World} {v : Value} {xs : List ByteArray} (h : OwnS w 0 v xs) : v.ownBlock = blkOf v := by
  rcases h.2 with ⟨rfl, _⟩ | ⟨g, cap, cur, rfl, _⟩ <;> rfl
section
variable {w w' : World} {V : Vals} {S : House}
theorem OwnI.same {v : Value} {xs : List Int} (h : OwnI w 0 v xs) (hb : ∀ g, blkOf v = some g → w'.heap[g]? = w.heap[g]?) : OwnI w' 0 v xs := h.keep fun g hg => hb g (by rw [← own_blk h]; exact hg)
theorem OwnS.same {v : Value} {xs : List ByteArray} (h : OwnS w 0 v xs) (hb : ∀ g, blkOf v = some g → w'.heap[g]? = w.heap[g]?) : OwnS w' 0 v xs := h.keep fun g hg => hb g (by rw [← own_blkS h]; exact hg)
theorem ChestAt.same {vc vs vk vo : Value} {c : Chest} (h : ChestAt w vc vs vk vo c) (hb : ∀ g, (blkOf vc = some g ∨ blkOf vs = some g ∨ blkOf vk = some g ∨ blkOf vo = some g) → w'.heap[g]? = w.heap[g]?) : ChestAt w' vc vs vk vo c := by
  obtain ⟨⟨g, rfl, hB⟩, h2, h3, h4⟩ := h
  exact ⟨⟨g, rfl, (hb g (Or.inl rfl)).trans hB⟩, OwnI.same h2 fun g hg => hb g (Or.inr (Or.inl hg)), OwnI.same h3 fun g hg => hb g (Or.inr (Or.inr (Or.inl hg))), OwnS.same h4 fun g hg => hb g (Or.inr (Or.inr (Or.inr hg)))⟩
theorem HouseAt.same (h : HouseAt w V S) (hb : ∀ g, Foot V g → w'.heap[g]? = w.heap[g]?) : HouseAt w' V S where
  inj := h.inj
  hs := by obtain ⟨g, h1, h2⟩ := h.hs; exact ⟨g, h1, (hb g ⟨.house, by rw [h1]; rfl⟩).trans h2⟩
  nm := OwnS.same h.nm fun g hg => hb g ⟨_, hg⟩
  mc := by obtain ⟨g, h1, h2⟩ := h.mc; exact ⟨g, h1, h2.same (hb g ⟨.chests, by rw [h1]; rfl⟩)⟩
  mo := by obtain ⟨g, h1, h2⟩ := h.mo; exact ⟨g, h1, h2.same (hb g ⟨.out, by rw [h1]; rfl⟩)⟩
  mu := by obtain ⟨g, h1, h2⟩ := h.mu; exact ⟨g, h1, h2.same (hb g ⟨.used, by rw [h1]; rfl⟩)⟩
  ch := fun k c hk => (h.ch k c hk).same fun g hg => by
    rcases hg with hg | hg | hg | hg
    · exact hb g ⟨_, hg⟩
    · exact hb g ⟨_, hg⟩
    · exact hb g ⟨_, hg⟩
    · exact hb g ⟨_, hg⟩
  nc := h.nc
  pk := fun o p ho => OwnI.same (h.pk o p ho) fun g hg => hb g ⟨_, hg⟩
  np := h.np
theorem ownI_lt {v : Value} {xs : List Int} (h : OwnI w 0 v xs) {g : Nat} (hg : blkOf v = some g) : g < w.heap.size := h.lt (by rw [own_blk h]; exact hg)
theorem ownS_lt {v : Value} {xs : List ByteArray} (h : OwnS w 0 v xs) {g : Nat} (hg : blkOf v = some g) : g < w.heap.size := h.lt (by rw [own_blkS h]; exact hg)
theorem HouseAt.lt (h : HouseAt w V S) {g : Nat} (hg : Foot V g) : g < w.heap.size := by
  obtain ⟨r, hr⟩ := hg
  cases r with
  | house => obtain ⟨g', h1, h2⟩ := h.hs; rw [h1] at hr; injection hr with hr; subst hr; exact h2.lt
  | names => exact ownS_lt h.nm hr
  | chests => obtain ⟨g', h1, h2⟩ := h.mc; rw [h1] at hr; injection hr with hr; subst hr; exact h2.lt
  | out => obtain ⟨g', h1, h2⟩ := h.mo; rw [h1] at hr; injection hr with hr; subst hr; exact h2.lt
  | used => obtain ⟨g', h1, h2⟩ := h.mu; rw [h1] at hr; injection hr with hr; subst hr; exact h2.lt
  | chest k =>
    cases hk : lk k S.chests with
    | none => rw [(h.nc k hk).1] at hr; cases hr
    | some c => obtain ⟨⟨g', h1, h2⟩, _⟩ := h.ch k c hk; rw [h1] at hr; injection hr with hr; subst hr; exact h2.lt
  | sizes k =>
    cases hk : lk k S.chests with
    | none => rw [(h.nc k hk).2.1] at hr; cases hr
    | some c => exact ownI_lt (h.ch k c hk).sizes hr
  | stock k =>
    cases hk : lk k S.chests with
    | none => rw [(h.nc k hk).2.2.1] at hr; cases hr
    | some c => exact ownI_lt (h.ch k c hk).stock hr
  | outs k =>
    cases hk : lk k S.chests with
    | none => rw [(h.nc k hk).2.2.2] at hr; cases hr
    | some c => exact ownS_lt (h.ch k c hk).out hr
  | pack o =>
    cases ho : lk o S.out with
    | none => rw [h.np o ho] at hr; cases hr
    | some p => exact ownI_lt (h.pk o p ho) hr
theorem HouseAt.callee (h : HouseAt w V S) (hb : Below w.heap.size w w') : HouseAt w' V S := h.same fun g hg => hb.block g (h.lt hg)
theorem HouseAt.drew (h : HouseAt w V S) : HouseAt w.drew V S := h.same fun _ _ => rfl
theorem HouseAt.drewN (h : HouseAt w V S) (n : Nat) : HouseAt (w.drewN n) V S := h.same fun _ _ => rfl
end
/-- blocks that do not belong to F stand; what belongs to F' is of F, or new -/
structure Frm (F : Nat → Prop) (w : World) (F' : Nat → Prop) (w' : World) : Prop where
  os : w'.os = w.os
  tape : w'.tape = w.tape
  output : w'.output = w.output
  size : w.heap.size ≤ w'.heap.size
  block : ∀ i, i < w.heap.size → ¬ F i → w'.heap[i]? = w.heap[i]?
  foot : ∀ i, F' i → F i ∨ w.heap.size ≤ i
theorem Frm.refl (F : Nat → Prop) (w : World) : Frm F w F w := ⟨rfl, rfl, rfl, Nat.le_refl _, fun _ _ _ => rfl, fun _ h => Or.inl h⟩
theorem Frm.trans {F F' F'' : Nat → Prop} {w w' w'' : World} (h : Frm F w F' w') (h' : Frm F' w' F'' w'') : Frm F w F'' w'' :=
  ⟨h'.os.trans h.os, h'.tape.trans h.tape, h'.output.trans h.output, Nat.le_trans h.size h'.size, fun i hi hn => (h'.block i (Nat.lt_of_lt_of_le hi h.size) (fun hf => by
    rcases h.foot i hf with h1 | h1
    · exact hn h1
    · omega)).trans (h.block i hi hn), fun i hi => by
    rcases h'.foot i hi with h1 | h1
    · exact h.foot i h1
    · exact Or.inr (Nat.le_trans h.size h1)⟩
theorem Frm.below {F : Nat → Prop} {w w' : World} (hb : Below w.heap.size w w') : Frm F w F w' := ⟨hb.os, hb.tape, hb.output, hb.size, fun i hi _ => hb.block i hi, fun _ h => Or.inl h⟩
theorem Frm.mono {F G F' G' : Nat → Prop} {w w' : World} (h : Frm F w F' w') (h1 : ∀ i, F i → G i) (h2 : ∀ i, G' i → F' i ∨ G i) : Frm G w G' w' :=
  ⟨h.os, h.tape, h.output, h.size, fun i hi hn => h.block i hi (fun hf => hn (h1 i hf)), fun i hi => by
    rcases h2 i hi with h3 | h3
    · rcases h.foot i h3 with h4 | h4
      · exact Or.inl (h1 i h4)
      · exact Or.inr h4
    · exact Or.inl h3⟩
/-! assoc lists -/
theorem lk_setA {α : Type} {k q : ByteArray} {v v0 : α} {l : List (ByteArray × α)} (h : lk k l = some v0) : lk q (setA k v l) = if q = k then some v else lk q l := by
  induction l with
  | nil => cases h
  | cons x l ih =>
    obtain ⟨k', v'⟩ := x
    unfold lk at h
    unfold setA
    by_cases hk : k' = k
    · subst hk
      rw [if_pos rfl, lk, lk]
      by_cases hq : q = k'
      · subst hq; rw [if_pos rfl, if_pos rfl]
      · rw [if_neg (fun e => hq e.symm), if_neg hq, if_neg (fun e => hq e.symm)]
    · rw [if_neg hk] at h
      rw [if_neg hk, lk, lk, ih h]
      by_cases hq : k' = q
      · subst hq; rw [if_pos rfl, if_pos rfl, if_neg hk]
      · rw [if_neg hq, if_neg hq]
theorem keys_setA {α : Type} {k : ByteArray} {v v0 : α} {l : List (ByteArray × α)} (h : lk k l = some v0) : (setA k v l).map (·.1) = l.map (·.1) := by
  induction l with
  | nil => rfl
  | cons x l ih =>
    obtain ⟨k', v'⟩ := x
    unfold lk at h
    unfold setA
    by_cases hk : k' = k
    · rw [if_pos hk, hk]; rfl
    · rw [if_neg hk] at h
      rw [if_neg hk, List.map_cons, ih h]; rfl
theorem lk_append {α : Type} {k q : ByteArray} {v : α} {l : List (ByteArray × α)} (h : lk k l = none) : lk q (l ++ [(k, v)]) = if q = k then some v else lk q l := by
  induction l with
  | nil =>
    show (if k = q then some v else none) = _
    by_cases hq : q = k
    · rw [if_pos hq, if_pos hq.symm]
    · rw [if_neg hq, if_neg (fun e => hq e.symm)]; rfl
  | cons x l ih =>
    obtain ⟨k', v'⟩ := x
    unfold lk at h
    rw [List.cons_append, lk, lk]
    by_cases hk : k' = k
    · rw [if_pos hk] at h; cases h
    · rw [if_neg hk] at h
      rw [ih h]
      by_cases hq : k' = q
      · subst hq; rw [if_pos rfl, if_pos rfl, if_neg hk]
      · rw [if_neg hq, if_neg hq]
theorem lk_none {α : Type} {k : ByteArray} {l : List (ByteArray × α)} : lk k l = none ↔ k ∉ l.map (·.1) := by
  induction l with
  | nil => simp [lk]
  | cons x l ih =>
    obtain ⟨k', v'⟩ := x
    unfold lk
    by_cases hk : k' = k
    · simp [hk]
    · rw [if_neg hk, ih]
      simp [Ne.symm hk]
theorem lk_delA {α : Type} {k q : ByteArray} {l : List (ByteArray × α)} (hd : (l.map (·.1)).Nodup) : lk q (delA k l) = if q = k then none else lk q l := by
  induction l with
  | nil => simp [delA, lk]
  | cons x l ih =>
    obtain ⟨k', v'⟩ := x
    rw [List.map_cons, List.nodup_cons] at hd
    unfold delA
    by_cases hk : k' = k
    · subst hk
      rw [if_pos rfl, lk]
      by_cases hq : q = k'
      · subst hq; rw [if_pos rfl, lk_none]; exact hd.1
      · rw [if_neg hq, if_neg (fun e => hq e.symm)]
    · rw [if_neg hk, lk, lk, ih hd.2]
      by_cases hq : k' = q
      · subst hq; rw [if_pos rfl, if_pos rfl, if_neg hk]
      · rw [if_neg hq, if_neg hq]
theorem hasB_append {o q : ByteArray} {l : List ByteArray} : hasB q (l ++ [o]) = (hasB q l || decide (q = o)) := by
  unfold hasB
  rw [List.any_append]
  simp only [List.any_cons, List.any_nil, Bool.or_false]
  congr 1
  rw [Bool.eq_iff_iff]; simp [eq_comm]
end Dr
end Go.Proofs.YtbgakdpbglpfaaaGreatDoor
-- the text DrN
namespace Go.Proofs.YtbgakdpbglpfaaaGreatDoor
open Go.RowKit
namespace Dr
set_option linter.unusedSimpArgs false
section
variable {w w' : World} {V : Vals} {S : House}
abbrev Inj (V : Vals) : Prop := ∀ r r' g, blkOf (V r) = some g → blkOf (V r') = some g → r = r'
theorem inj_put (h : Inj V) (r0 : Role) (v : Value) (hv : ∀ g, blkOf v = some g → ∀ r, r ≠ r0 → blkOf (V r) ≠ some g) : Inj (V.put r0 v) := by
  intro r r' g h1 h2
  by_cases e1 : r = r0
  · subst e1
    rw [Vals.put_self] at h1
    by_cases e2 : r' = r
    · exact e2.symm
    · rw [Vals.put_ne _ _ e2] at h2
      exact (hv g h1 r' e2 h2).elim
  · rw [Vals.put_ne _ _ e1] at h1
    by_cases e2 : r' = r0
    · subst e2
      rw [Vals.put_self] at h2
      exact (hv g h2 r e1 h1).elim
    · rw [Vals.put_ne _ _ e2] at h2
      exact h r r' g h1 h2
/-- v lies in the block that the role had, or in one that the house does not have -/
def FreshAt (V : Vals) (r0 : Role) (v : Value) : Prop := ∀ g, blkOf v = some g → blkOf (V r0) = some g ∨ ¬ Foot V g
theorem FreshAt.ne (h : Inj V) {r0 : Role} {v : Value} (hv : FreshAt V r0 v) : ∀ g, blkOf v = some g → ∀ r, r ≠ r0 → blkOf (V r) ≠ some g := by
  intro g hg r hr e
  rcases hv g hg with h1 | h1
  · exact hr (h r r0 g e h1)
  · exact h1 ⟨r, e⟩
theorem FreshAt.self (V : Vals) (r : Role) : FreshAt V r (V r) := fun _ h => Or.inl h
theorem FreshAt.none {r : Role} {v : Value} (h : blkOf v = none) : FreshAt V r v := fun g hg => by rw [h] at hg; cases hg
def Apart (v u : Value) : Prop := ∀ g, blkOf v = some g → blkOf u ≠ some g
theorem Apart.symm {v u : Value} (h : Apart v u) : Apart u v := fun g h1 h2 => h g h2 h1
def updC (V : Vals) (k : ByteArray) (vs vk vo : Value) : Vals := ((V.put (.sizes k) vs).put (.stock k) vk).put (.outs k) vo
theorem inj_updC (h : Inj V) {k : ByteArray} {vs vk vo : Value} (fs : FreshAt V (.sizes k) vs) (fk : FreshAt V (.stock k) vk) (fo : FreshAt V (.outs k) vo) (d1 : Apart vs vk) (d2 : Apart vs vo) (d3 : Apart vk vo) : Inj (updC V k vs vk vo) := by
  refine inj_put (inj_put (inj_put h _ _ (fs.ne h)) _ _ ?_) _ _ ?_
  · intro g hg r hr
    by_cases e : r = .sizes k
    · subst e; rw [Vals.put_self]; exact fun e => d1 g e hg
    · rw [Vals.put_ne _ _ e]; exact fk.ne h g hg r hr
  · intro g hg r hr
    by_cases e : r = .stock k
    · subst e; rw [Vals.put_self]; exact fun e => d3 g e hg
    · rw [Vals.put_ne _ _ e]
      by_cases e2 : r = .sizes k
      · subst e2; rw [Vals.put_self]; exact fun e => d2 g e hg
      · rw [Vals.put_ne _ _ e2]; exact fo.ne h g hg r hr
theorem HouseAt.setChest {k : ByteArray} {c0 c' : Chest} {vs vk vo : Value} (H : HouseAt w V S) (hk : lk k S.chests = some c0)
    (hblk : ∀ r g, blkOf (V r) = some g → r ≠ .chest k → r ≠ .sizes k → r ≠ .stock k → r ≠ .outs k → w'.heap[g]? = w.heap[g]?)
    (hC : ChestAt w' (V (.chest k)) vs vk vo c') (fs : FreshAt V (.sizes k) vs) (fk : FreshAt V (.stock k) vk) (fo : FreshAt V (.outs k) vo) (d1 : Apart vs vk) (d2 : Apart vs vo) (d3 : Apart vk vo) :
    HouseAt w' (updC V k vs vk vo) (S.set k c') where
  inj := inj_updC H.inj fs fk fo d1 d2 d3
  hs := by
    obtain ⟨g, h1, h2⟩ := H.hs
    exact ⟨g, by simp [updC, Vals.put, h1], (hblk .house g (by rw [h1]; rfl) (by simp) (by simp) (by simp) (by simp)).trans (show Blk w g _ _ by simpa [updC, Vals.put] using h2)⟩
  nm := by
    have h := OwnS.same (w' := w') H.nm fun g hg => hblk .names g hg (by simp) (by simp) (by simp) (by simp)
    show OwnT w' (updC V k vs vk vo .names) ((setA k c' S.chests).map (·.1))
    rw [keys_setA hk]
    simpa [updC, Vals.put] using h
  mc := by
    obtain ⟨g, h1, h2⟩ := H.mc
    refine ⟨g, by simp [updC, Vals.put, h1], (h2.same (hblk .chests g (by rw [h1]; rfl) (by simp) (by simp) (by simp) (by simp))).congr fun q => ?_⟩
    show _ = Option.map _ (lk q (setA k c' S.chests))
    rw [lk_setA hk]
    by_cases hq : q = k
    · subst hq; rw [if_pos rfl, hk]; simp [updC, Vals.put]
    · rw [if_neg hq]; simp [updC, Vals.put]
  mo := by
    obtain ⟨g, h1, h2⟩ := H.mo
    refine ⟨g, by simp [updC, Vals.put, h1], (h2.same (hblk .out g (by rw [h1]; rfl) (by simp) (by simp) (by simp) (by simp))).congr fun q => ?_⟩
    simp [updC, Vals.put, House.set]
  mu := by
    obtain ⟨g, h1, h2⟩ := H.mu
    exact ⟨g, by simp [updC, Vals.put, h1], h2.same (hblk .used g (by rw [h1]; rfl) (by simp) (by simp) (by simp) (by simp))⟩
  ch := by
    intro q c hq
    have hq' : lk q (setA k c' S.chests) = some c := hq
    rw [lk_setA hk] at hq'
    by_cases e : q = k
    · subst e
      rw [if_pos rfl] at hq'
      injection hq' with hq'
      subst hq'
      simpa [updC, Vals.put] using hC
    · rw [if_neg e] at hq'
      have h := (H.ch q c hq').same (w' := w') fun g hg => by
        rcases hg with hg | hg | hg | hg
        · exact hblk _ g hg (by simp [e]) (by simp) (by simp) (by simp)
        · exact hblk _ g hg (by simp) (by simp [e]) (by simp) (by simp)
        · exact hblk _ g hg (by simp) (by simp) (by simp [e]) (by simp)
        · exact hblk _ g hg (by simp) (by simp) (by simp) (by simp [e])
      simpa [updC, Vals.put, e] using h
  nc := by
    intro q hq
    have hq' : lk q (setA k c' S.chests) = none := hq
    rw [lk_setA hk] at hq'
    by_cases e : q = k
    · rw [if_pos e] at hq'; cases hq'
    · rw [if_neg e] at hq'
      simpa [updC, Vals.put, e] using H.nc q hq'
  pk := by
    intro o p ho
    have h := OwnI.same (w' := w') (H.pk o p ho) fun g hg => hblk _ g hg (by simp) (by simp) (by simp) (by simp)
    simpa [updC, Vals.put] using h
  np := by
    intro o ho
    simpa [updC, Vals.put] using H.np o ho
/-- the map of the orders that are out, at one name -/
theorem HouseAt.setOut {o : ByteArray} {out' : List (ByteArray × Parcel)} {vp : Value} (H : HouseAt w V S)
    (hblk : ∀ r g, blkOf (V r) = some g → r ≠ .out → r ≠ .pack o → w'.heap[g]? = w.heap[g]?)
    (hM : ∀ g, V .out = .map (some g) → MapS w' g (fun x => if x = o then (lk o out').map (fun p => .agg #[.string p.drawer, vp]) else (lk x S.out).map fun p => .agg #[.string p.drawer, V (.pack x)]))
    (hl : ∀ x, x ≠ o → lk x out' = lk x S.out) (hp : ∀ p, lk o out' = some p → OwnN w' vp p.packets) (hn : lk o out' = none → blkOf vp = none) (fp : FreshAt V (.pack o) vp) :
    HouseAt w' (V.put (.pack o) vp) { S with out := out' } where
  inj := inj_put H.inj _ _ (fp.ne H.inj)
  hs := by
    obtain ⟨g, h1, h2⟩ := H.hs
    exact ⟨g, by simp [Vals.put, h1], (hblk .house g (by rw [h1]; rfl) (by simp) (by simp)).trans (show Blk w g _ _ by simpa [Vals.put] using h2)⟩
  nm := by
    have h := OwnS.same (w' := w') H.nm fun g hg => hblk .names g hg (by simp) (by simp)
    simpa [Vals.put] using h
  mc := by
    obtain ⟨g, h1, h2⟩ := H.mc
    exact ⟨g, by simp [Vals.put, h1], (h2.same (hblk .chests g (by rw [h1]; rfl) (by simp) (by simp))).congr fun q => by simp [Vals.put]⟩
  mo := by
    obtain ⟨g, h1, _⟩ := H.mo
    refine ⟨g, by simp [Vals.put, h1], (hM g h1).congr fun q => ?_⟩
    by_cases hq : q = o
    · subst hq; simp [Vals.put]
    · simp [Vals.put, hq, hl q hq]
  mu := by
    obtain ⟨g, h1, h2⟩ := H.mu
    exact ⟨g, by simp [Vals.put, h1], h2.same (hblk .used g (by rw [h1]; rfl) (by simp) (by simp))⟩
  ch := by
    intro q c hq
    have h := (H.ch q c hq).same (w' := w') fun g hg => by
      rcases hg with hg | hg | hg | hg
      · exact hblk _ g hg (by simp) (by simp)
      · exact hblk _ g hg (by simp) (by simp)
      · exact hblk _ g hg (by simp) (by simp)
      · exact hblk _ g hg (by simp) (by simp)
    simpa [Vals.put] using h
  nc := by
    intro q hq
    simpa [Vals.put] using H.nc q hq
  pk := by
    intro x p hx
    by_cases e : x = o
    · subst e
      rw [Vals.put_self]
      exact hp p hx
    · have hx' : lk x S.out = some p := (hl x e).symm.trans hx
      have h := OwnI.same (w' := w') (H.pk x p hx') fun g hg => hblk _ g hg (by simp) (by simp [e])
      simpa [Vals.put, e] using h
  np := by
    intro x hx
    by_cases e : x = o
    · subst e
      rw [Vals.put_self]
      exact hn hx
    · have hx' : lk x S.out = none := (hl x e).symm.trans hx
      simpa [Vals.put, e] using H.np x hx'
/-- the map of the names that orders had -/
theorem HouseAt.setUsed {used' : List ByteArray} (H : HouseAt w V S) (hblk : ∀ r g, blkOf (V r) = some g → r ≠ .used → w'.heap[g]? = w.heap[g]?)
    (hM : ∀ g, V .used = .map (some g) → MapS w' g (fun x => if hasB x used' then some (.bool true) else none)) : HouseAt w' V { S with used := used' } where
  inj := H.inj
  hs := by
    obtain ⟨g, h1, h2⟩ := H.hs
    exact ⟨g, h1, (hblk .house g (by rw [h1]; rfl) (by simp)).trans h2⟩
  nm := OwnS.same H.nm fun g hg => hblk .names g hg (by simp)
  mc := by
    obtain ⟨g, h1, h2⟩ := H.mc
    exact ⟨g, h1, h2.same (hblk .chests g (by rw [h1]; rfl) (by simp))⟩
  mo := by
    obtain ⟨g, h1, h2⟩ := H.mo
    exact ⟨g, h1, h2.same (hblk .out g (by rw [h1]; rfl) (by simp))⟩
  mu := by
    obtain ⟨g, h1, _⟩ := H.mu
    exact ⟨g, h1, hM g h1⟩
  ch := fun q c hq => (H.ch q c hq).same fun g hg => by
    rcases hg with hg | hg | hg | hg
    · exact hblk _ g hg (by simp)
    · exact hblk _ g hg (by simp)
    · exact hblk _ g hg (by simp)
    · exact hblk _ g hg (by simp)
  nc := H.nc
  pk := fun o p ho => OwnI.same (H.pk o p ho) fun g hg => hblk _ g hg (by simp)
  np := H.np
def updF (V : Vals) (d : ByteArray) (vn vc vs vk vo : Value) : Vals := (updC (V.put .names vn) d vs vk vo).put (.chest d) vc
/-- a drawer at the end of all: it comes (its chest is new), or goes (chests' is without it) -/
theorem HouseAt.setFound {d : ByteArray} {chests' : List (ByteArray × Chest)} {vn vc vs vk vo : Value} (H : HouseAt w V S)
    (hblk : ∀ r g, blkOf (V r) = some g → r ≠ .house → r ≠ .names → r ≠ .chests → r ≠ .chest d → r ≠ .sizes d → r ≠ .stock d → r ≠ .outs d → w'.heap[g]? = w.heap[g]?)
    (hH : ∀ g, V .house = .pointer (some ⟨g, 0, none⟩) → Blk w' g 111 #[vn, V .chests, V .out, V .used])
    (hN : OwnT w' vn (chests'.map (·.1))) (fn : FreshAt V .names vn)
    (hM : ∀ g, V .chests = .map (some g) → MapS w' g (fun x => if x = d then (lk d chests').map (fun _ => vc) else (lk x S.chests).map fun _ => V (.chest x)))
    (hl : ∀ x, x ≠ d → lk x chests' = lk x S.chests)
    (hC : ∀ c, lk d chests' = some c → ChestAt w' vc vs vk vo c) (hc0 : lk d chests' = none → blkOf vc = none) (fc : FreshAt V (.chest d) vc) (hs0 : blkOf vs = none) (hk0 : blkOf vk = none) (ho0 : blkOf vo = none) (dn : Apart vn vc) :
    HouseAt w' (updF V d vn vc vs vk vo) { S with chests := chests' } where
  inj := by
    have h1 : Inj (V.put .names vn) := inj_put H.inj _ _ (fn.ne H.inj)
    have h2 : Inj (updC (V.put .names vn) d vs vk vo) := inj_updC h1 (.none hs0) (.none hk0) (.none ho0) (fun g hg => by rw [hs0] at hg; cases hg) (fun g hg => by rw [hs0] at hg; cases hg) (fun g hg => by rw [hk0] at hg; cases hg)
    refine inj_put h2 _ _ fun g hg r hr e => ?_
    unfold updC at e
    by_cases e1 : r = .outs d
    · subst e1; rw [Vals.put_self, ho0] at e; cases e
    · rw [Vals.put_ne _ _ e1] at e
      by_cases e2 : r = .stock d
      · subst e2; rw [Vals.put_self, hk0] at e; cases e
      · rw [Vals.put_ne _ _ e2] at e
        by_cases e3 : r = .sizes d
        · subst e3; rw [Vals.put_self, hs0] at e; cases e
        · rw [Vals.put_ne _ _ e3] at e
          by_cases e4 : r = .names
          · subst e4; rw [Vals.put_self] at e; exact dn g e hg
          · rw [Vals.put_ne _ _ e4] at e
            exact fc.ne H.inj g hg r hr e
  hs := by
    obtain ⟨g, h1, _⟩ := H.hs
    exact ⟨g, by simp [updF, updC, Vals.put, h1], by simpa [updF, updC, Vals.put] using hH g h1⟩
  nm := by simpa [updF, updC, Vals.put] using hN
  mc := by
    obtain ⟨g, h1, _⟩ := H.mc
    refine ⟨g, by simp [updF, updC, Vals.put, h1], (hM g h1).congr fun q => ?_⟩
    by_cases hq : q = d
    · subst hq; simp [updF, updC, Vals.put]
    · simp [updF, updC, Vals.put, hq, hl q hq]
  mo := by
    obtain ⟨g, h1, h2⟩ := H.mo
    refine ⟨g, by simp [updF, updC, Vals.put, h1], (h2.same (hblk .out g (by rw [h1]; rfl) (by simp) (by simp) (by simp) (by simp) (by simp) (by simp) (by simp))).congr fun q => ?_⟩
    simp [updF, updC, Vals.put]
  mu := by
    obtain ⟨g, h1, h2⟩ := H.mu
    exact ⟨g, by simp [updF, updC, Vals.put, h1], h2.same (hblk .used g (by rw [h1]; rfl) (by simp) (by simp) (by simp) (by simp) (by simp) (by simp) (by simp))⟩
  ch := by
    intro q c hq
    by_cases e : q = d
    · subst e
      simpa [updF, updC, Vals.put] using hC c hq
    · have hq' : lk q S.chests = some c := (hl q e).symm.trans hq
      have h := (H.ch q c hq').same (w' := w') fun g hg => by
        rcases hg with hg | hg | hg | hg
        · exact hblk _ g hg (by simp) (by simp) (by simp) (by simp [e]) (by simp) (by simp) (by simp)
        · exact hblk _ g hg (by simp) (by simp) (by simp) (by simp) (by simp [e]) (by simp) (by simp)
        · exact hblk _ g hg (by simp) (by simp) (by simp) (by simp) (by simp) (by simp [e]) (by simp)
        · exact hblk _ g hg (by simp) (by simp) (by simp) (by simp) (by simp) (by simp) (by simp [e])
      simpa [updF, updC, Vals.put, e] using h
  nc := by
    intro q hq
    by_cases e : q = d
    · subst e
      simp [updF, updC, Vals.put, hc0 hq, hs0, hk0, ho0]
    · have hq' : lk q S.chests = none := (hl q e).symm.trans hq
      simpa [updF, updC, Vals.put, e] using H.nc q hq'
  pk := by
    intro o p ho
    have h := OwnI.same (w' := w') (H.pk o p ho) fun g hg => hblk _ g hg (by simp) (by simp) (by simp) (by simp) (by simp) (by simp) (by simp)
    simpa [updF, updC, Vals.put] using h
  np := by
    intro o ho
    simpa [updF, updC, Vals.put] using H.np o ho
/-- v lies in the block that the role had, or in a new one -/
def NewAt (w : World) (V : Vals) (r0 : Role) (v : Value) : Prop := ∀ g, blkOf v = some g → blkOf (V r0) = some g ∨ w.heap.size ≤ g
theorem NewAt.fresh {r : Role} {v : Value} (h : NewAt w V r v) (H : HouseAt w V S) : FreshAt V r v := fun g hg => by
  rcases h g hg with h1 | h1
  · exact Or.inl h1
  · exact Or.inr fun hF => by have := H.lt hF; omega
theorem NewAt.foot {r : Role} {v : Value} (h : NewAt w V r v) {g : Nat} (hg : blkOf v = some g) : Foot V g ∨ w.heap.size ≤ g := by
  rcases h g hg with h1 | h1
  · exact Or.inl ⟨r, h1⟩
  · exact Or.inr h1
theorem foot_put {r : Role} {v : Value} {i : Nat} (h : Foot (V.put r v) i) : blkOf v = some i ∨ Foot V i := by
  obtain ⟨q, hq⟩ := h
  by_cases e : q = r
  · subst e; rw [Vals.put_self] at hq; exact Or.inl hq
  · rw [Vals.put_ne _ _ e] at hq; exact Or.inr ⟨q, hq⟩
theorem foot_updC {k : ByteArray} {vs vk vo : Value} {i : Nat} (h : Foot (updC V k vs vk vo) i) : blkOf vs = some i ∨ blkOf vk = some i ∨ blkOf vo = some i ∨ Foot V i := by
  rcases foot_put h with h | h
  · exact Or.inr (Or.inr (Or.inl h))
  · rcases foot_put h with h | h
    · exact Or.inr (Or.inl h)
    · rcases foot_put h with h | h
      · exact Or.inl h
      · exact Or.inr (Or.inr (Or.inr h))
theorem foot_updF {d : ByteArray} {vn vc vs vk vo : Value} {i : Nat} (h : Foot (updF V d vn vc vs vk vo) i) : blkOf vn = some i ∨ blkOf vc = some i ∨ blkOf vs = some i ∨ blkOf vk = some i ∨ blkOf vo = some i ∨ Foot V i := by
  rcases foot_put h with h | h
  · exact Or.inr (Or.inl h)
  · rcases foot_updC h with h | h | h | h
    · exact Or.inr (Or.inr (Or.inl h))
    · exact Or.inr (Or.inr (Or.inr (Or.inl h)))
    · exact Or.inr (Or.inr (Or.inr (Or.inr (Or.inl h))))
    · rcases foot_put h with h | h
      · exact Or.inl h
      · exact Or.inr (Or.inr (Or.inr (Or.inr (Or.inr h))))
theorem HouseAt.ne_ (H : HouseAt w V S) {r r' : Role} {g g' : Nat} (h1 : blkOf (V r) = some g) (h2 : blkOf (V r') = some g') (hne : r ≠ r') : g ≠ g' := by
  rintro rfl
  exact hne (H.inj r r' g h1 h2)
/-- a house that holds nothing -/
def emptyV (gh gc go gu : Nat) : Vals := fun r => match r with
  | .house => .pointer (some ⟨gh, 0, none⟩)
  | .names => .slice none 0 0
  | .chests => .map (some gc)
  | .out => .map (some go)
  | .used => .map (some gu)
  | _ => .nilFunc
theorem HouseAt.empty {gh gc go gu : Nat} (h1 : Blk w gh 111 #[.slice none 0 0, .map (some gc), .map (some go), .map (some gu)]) (h2 : MapS w gc (fun _ => none)) (h3 : MapS w go (fun _ => none)) (h4 : MapS w gu (fun _ => none))
    (n1 : gc ≠ go) (n2 : gc ≠ gu) (n3 : go ≠ gu) : HouseAt w (emptyV gh gc go gu) ⟨[], [], []⟩ where
  inj := by
    have m1 := h2.blk_ne h1
    have m2 := h3.blk_ne h1
    have m3 := h4.blk_ne h1
    intro r r' g e1 e2
    cases r <;> cases r' <;> simp [emptyV, blkOf] at e1 e2 <;> first | rfl | (exfalso; omega)
  hs := ⟨gh, rfl, h1⟩
  nm := OwnS.nil _ _
  mc := ⟨gc, rfl, h2⟩
  mo := ⟨go, rfl, h3⟩
  mu := ⟨gu, rfl, h4⟩
  ch := fun k c h => by cases h
  nc := fun k _ => ⟨rfl, rfl, rfl, rfl⟩
  pk := fun o p h => by cases h
  np := fun o _ => rfl
end
end Dr
end Go.Proofs.YtbgakdpbglpfaaaGreatDoor
-- the text DrA
namespace Go.Proofs.YtbgakdpbglpfaaaGreatDoor
open Go.RowKit
namespace Dr
theorem zero_ptr (w : World) : (zeroValue 98).run Tryz.prog w = .ok (.pointer none) w := Tryz.zeroValue98 w
section
variable {w : World} {V : Vals} {S : House}
/-- the look-up of a drawer -/
theorem HouseAt.lookC (H : HouseAt w V S) {w' : World} (h : ∀ g, Foot V g → w'.heap[g]? = w.heap[g]?) {g : Nat} (hg : V .chests = .map (some g)) (d : ByteArray) :
    (Instr.lookup 107 (.map (some g)) (.string d) false).run Tryz.prog w' = .ok (if (lk d S.chests).isSome then V (.chest d) else .pointer none) w' := by
  obtain ⟨g', h1, h2⟩ := H.mc
  obtain rfl : g' = g := by rw [hg] at h1; injection h1 with h1; injection h1 with h1; exact h1.symm
  have h3 := (h2.same (w' := w') (h g' ⟨.chests, by rw [hg]; rfl⟩)).look Tryz.underlying107 Tryz.underlying9 (zero_ptr w') d false
  rw [h3]
  cases hl : lk d S.chests <;> simp
/-- what open returns -/
def openR (V : Vals) (S : House) (d : ByteArray) : Value := match lk d S.chests with
  | none => .tuple #[.pointer none, .int .i64 2]
  | some c => if c.shut then .tuple #[.pointer none, .int .i64 20] else .tuple #[V (.chest d), .int .i64 0]
set_option maxRecDepth 100000 in
theorem open_any (H : HouseAt w V S) (d : ByteArray) :
    Calls Tryz.prog 216 #[V .house, .string d] w fun e w' => w' = w ∧ e = .returned (openR V S d) := by
  obtain ⟨gh, hV, hB⟩ := H.hs
  obtain ⟨gc, hVc, _⟩ := H.mc
  have hl := H.lookC (fun _ _ => rfl) hVc d
  have c1 := hB.cell 1
  rw [hVc] at c1
  rw [hV]
  obtain ⟨R, hR⟩ : ∃ R, openR V S d = R := ⟨_, rfl⟩
  rw [hR]
  cases hk : lk d S.chests with
  | none =>
    rw [hk] at hl
    have HR : Hid (R = .tuple #[.pointer none, .int .i64 2]) := by rw [Hid, ← hR, openR, hk]
    clear hk hR H hV hVc
    replace hl : (Instr.lookup 107 (.map (some gc)) (.string d) false).run Tryz.prog w = .ok (.pointer none) w := hl
    go_enter Tryz.func216, Tryz.ntmps216
    go_wp2
    go_ret2
    exact ⟨rfl, by rw [HR.out]; rfl⟩
  | some c =>
    obtain ⟨⟨g, hg, hBc⟩, _⟩ := H.ch d c hk
    rw [hk] at hl
    replace hl : (Instr.lookup 107 (.map (some gc)) (.string d) false).run Tryz.prog w = .ok (.pointer (some ⟨g, 0, none⟩)) w := by rw [hl, hg]; rfl
    have c2 := hBc.cell 2
    replace c2 : w.cell? ⟨g, 2, none⟩ = some (.bool c.shut) := c2
    have HR : Hid (R = if c.shut then .tuple #[.pointer none, .int .i64 20] else .tuple #[.pointer (some ⟨g, 0, none⟩), .int .i64 0]) := by rw [Hid, ← hR, openR, hk, hg]
    clear hg hk hBc hV hVc H hR
    cases hs : c.shut with
    | true =>
      rw [hs] at c2
      have HS := Lib.hid hs
      clear hs
      go_enter Tryz.func216, Tryz.ntmps216
      go_wp2
      go_ret2
      exact ⟨rfl, by rw [HR.out, HS.out]; rfl⟩
    | false =>
      rw [hs] at c2
      have HS := Lib.hid hs
      clear hs
      go_enter Tryz.func216, Tryz.ntmps216
      go_wp2
      go_ret2
      exact ⟨rfl, by rw [HR.out, HS.out]; rfl⟩
end
end Dr
end Go.Proofs.YtbgakdpbglpfaaaGreatDoor
-- the text DrL
namespace Go.Proofs.YtbgakdpbglpfaaaGreatDoor
open Go.RowKit
namespace Dr
section
variable {w w' : World} {base n : Nat} {e : TypeId} {v : Value} {xs : List Value}
theorem row_form (h : w.ownsRow base e 1 v n xs) : ∃ A c, v = .slice A n c ∧ n ≤ c ∧ c ≤ maxLen ∧ Reads w w.heap.size 1 A n xs ∧ (0 < n → ∃ g, A = some ⟨g, 0, none⟩) := by
  have h0 := h
  rcases h.2 with ⟨rfl, rfl⟩ | ⟨g, cap, cur, rfl, hb, hg, hc, hm, hsz, htk⟩
  · have : xs = [] := List.eq_nil_of_length_eq_zero (by have := h.1; omega)
    subst this
    exact ⟨none, 0, rfl, Nat.le_refl _, Nat.zero_le _, Reads.none_, fun h => absurd h (by omega)⟩
  · exact ⟨_, cap, rfl, hc, hm, Reads.of_own h0, fun _ => ⟨g, rfl⟩⟩
theorem row_take {A : Option Addr} {c k : Nat} (h : w.ownsRow base e 1 (.slice A n c) n xs) (hk : k ≤ n) : w.ownsRow base e 1 (.slice A k c) k (xs.take k) := by
  have hl := h.1
  refine ⟨by rw [List.length_take]; omega, ?_⟩
  rcases h.2 with ⟨h1, h2⟩ | ⟨g, cap, cur, h1, hb, hg, hc, hm, hsz, htk⟩
  · left
    injection h1 with h1 h3 h4
    subst h1 h4
    have : k = 0 := by omega
    subst this
    exact ⟨rfl, rfl⟩
  · right
    injection h1 with h1 h3 h4
    subst h1 h4
    refine ⟨g, c, cur, rfl, hb, hg, by omega, hm, hsz, ?_⟩
    rw [← htk, List.take_take, Nat.min_eq_left (by omega), Nat.mul_one]
theorem ownI_form {v : Value} {xs : List Int} (h : OwnI w base v xs) : ∃ A c, v = .slice A xs.length c ∧ xs.length ≤ c ∧ c ≤ maxLen ∧ RInts w w.heap.size A xs.length xs ∧ (0 < xs.length → ∃ g, A = some ⟨g, 0, none⟩) := row_form h
theorem ownN_form {v : Value} {xs : List Nat} (h : OwnN w v xs) : ∃ A c, v = .slice A xs.length c ∧ xs.length ≤ c ∧ c ≤ maxLen ∧ RInts w w.heap.size A xs.length (natI xs) ∧ (0 < xs.length → ∃ g, A = some ⟨g, 0, none⟩) := by
  have := ownI_form h
  rw [natI_length] at this
  exact this
theorem ownS_form {v : Value} {xs : List ByteArray} (h : OwnS w base v xs) : ∃ A c, v = .slice A xs.length c ∧ xs.length ≤ c ∧ c ≤ maxLen ∧ RStrs w w.heap.size A xs.length xs ∧ (0 < xs.length → ∃ g, A = some ⟨g, 0, none⟩) := row_form h
theorem ownS_take {A : Option Addr} {c k m : Nat} {xs : List ByteArray} (h : OwnS w base (.slice A m c) xs) (hm : m = xs.length) (hk : k ≤ xs.length) : OwnS w base (.slice A k c) (xs.take k) := by
  subst hm
  have := row_take h hk
  unfold OwnS
  rw [List.length_take, Nat.min_eq_left hk]
  unfold strsV at this ⊢
  rw [List.map_take]
  exact this
theorem natI_get {xs : List Nat} {i x : Nat} (h : xs[i]? = some x) : (natI xs)[i]? = some (x : Int) := by
  unfold natI
  rw [List.getElem?_map, h]; rfl
theorem natI_set (xs : List Nat) (i x : Nat) : (natI xs).set i (x : Int) = natI (xs.set i x) := by
  unfold natI
  rw [List.map_set]
/-- one cell of a row of numbers -/
theorem ownN_cell {g c m : Nat} {xs : List Nat} (h : OwnN w (.slice (some ⟨g, 0, none⟩) m c) xs) (hm : m = xs.length) {i x : Nat} (hx : xs[i]? = some x) : w.cell? ⟨g, i, none⟩ = some (.int .i64 (x : Int)) ∧ w.frozen? ⟨g, i, none⟩ = false := by
  subst hm
  have hi := (List.getElem?_eq_some_iff.1 hx).1
  have h' : w.ownsRow 0 3 1 (.slice (some ⟨g, 0, none⟩) xs.length c) xs.length (ints (natI xs)) := by
    have := h; unfold OwnN OwnI at this; rw [natI_length] at this; exact this
  refine ⟨?_, h'.frozenAt i⟩
  rw [h'.cellAt i (by omega)]
  unfold ints
  rw [List.getElem?_map, natI_get hx]; rfl
theorem ownN_set {g c m : Nat} {xs : List Nat} (h : OwnN w (.slice (some ⟨g, 0, none⟩) m c) xs) (hm : m = xs.length) (i x : Nat) : OwnN (w.setCell ⟨g, i, none⟩ (.int .i64 (x : Int))) (.slice (some ⟨g, 0, none⟩) m c) (xs.set i x) := by
  subst hm
  have h' : w.ownsRow 0 3 1 (.slice (some ⟨g, 0, none⟩) xs.length c) xs.length (ints (natI xs)) := by
    have := h; unfold OwnN OwnI at this; rw [natI_length] at this; exact this
  have h2 := (h'.stored i (.int .i64 (x : Int))).1
  unfold OwnN OwnI
  rw [natI_length, List.length_set]
  unfold ints at h2 ⊢
  rw [← natI_set, List.map_set]
  exact h2
end
end Dr
end Go.Proofs.YtbgakdpbglpfaaaGreatDoor
