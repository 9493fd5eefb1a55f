/- Seasons: their lines by numbers, plain; the row of a season. -/
import Derived.Test.YtbgakdpbglpfaaaGreatDoorJcd
import Derived.Deep.MidRow
namespace Go.Proofs.YtbgakdpbglpfaaaGreatDoor
open Go.RowKit
namespace Dr
set_option linter.unusedSimpArgs false
/-- a line by numbers -/
structure Quad where
  x0 : Nat
  x1 : Nat
  x2 : Nat
  x3 : Nat
def Quad.vals (q : Quad) : List Value := [.int .u8 (q.x0 : Int), .int .u8 (q.x1 : Int), .int .u8 (q.x2 : Int), .int .u8 (q.x3 : Int)]
def Quad.Ok (q : Quad) : Prop := q.x0 < 256 ∧ q.x1 < 256 ∧ q.x2 < 256 ∧ q.x3 < 256
/-- a slice of such lines that came in -/
def RQuads (w : World) (B : Nat) (P : Option Addr) (n : Nat) (qs : List Quad) : Prop :=
  qs.length = n ∧ (∀ q ∈ qs, q.Ok) ∧ (0 < n → ∃ b o, P = some ⟨b, o, none⟩ ∧ b < B ∧ ∀ i q, qs[i]? = some q → w.rangeAt b (o + i * 4) q.vals)
def sizesL : List ByteArray := [⟨#[50]⟩, ⟨#[51]⟩, ⟨#[53]⟩, ⟨#[55]⟩]
def othersL : List ByteArray := [⟨#[109, 97, 114, 97, 98, 111, 117]⟩, ⟨#[101, 103, 114, 101, 116]⟩]
def spB : ByteArray := ⟨#[32]⟩
def kB (k : Nat) : ByteArray := bstr (Lib.decDigits k)
def szP (q : Quad) : ByteArray := sizesL.getD (q.x2 % 4) ⟨#[]⟩
def drP (q : Quad) : ByteArray := oneP drawersL q.x1
def orP (q : Quad) : ByteArray := oneP ordersL q.x1
def lineS (u : Bool) (q : Quad) : ByteArray :=
  if q.x0 % 16 = 0 then ⟨#[115, 105, 122, 101, 32]⟩ ++ drP q ++ spB ++ szP q
  else if q.x0 % 16 ≤ 3 then ⟨#[98, 117, 121, 32]⟩ ++ drP q ++ spB ++ szP q ++ spB ++ kB (1 + q.x3 % 4)
  else if q.x0 % 16 ≤ 8 then ⟨#[111, 114, 100, 101, 114, 32]⟩ ++ orP q ++ spB ++ oneP drawersL (q.x2 / 2) ++ spB ++ kB (1 + q.x3 % 24)
  else if q.x0 % 16 ≤ 10 then ⟨#[98, 97, 99, 107, 32]⟩ ++ orP q
  else if q.x0 % 16 = 11 then ⟨#[109, 111, 116, 104, 32]⟩ ++ drP q ++ spB ++ szP q
  else if q.x0 % 16 = 12 then ⟨#[99, 111, 117, 110, 116, 32]⟩ ++ drP q ++ spB ++ szP q ++ spB ++ kB (q.x3 % 5)
  else if q.x0 % 16 = 13 then ⟨#[115, 104, 117, 116, 32]⟩ ++ drP q
  else if q.x0 % 16 = 14 then ⟨#[111, 112, 101, 110, 32]⟩ ++ drP q
  else if u then undoB else ⟨#[100, 114, 97, 119, 101, 114, 32]⟩ ++ oneP othersL q.x3
def firstL : List ByteArray := [⟨#[100, 114, 97, 119, 101, 114, 32, 111, 115, 116, 114, 105, 99, 104]⟩, ⟨#[115, 105, 122, 101, 32, 111, 115, 116, 114, 105, 99, 104, 32, 51]⟩, ⟨#[115, 105, 122, 101, 32, 111, 115, 116, 114, 105, 99, 104, 32, 53]⟩,
  ⟨#[98, 117, 121, 32, 111, 115, 116, 114, 105, 99, 104, 32, 51, 32, 52]⟩, ⟨#[98, 117, 121, 32, 111, 115, 116, 114, 105, 99, 104, 32, 53, 32, 51]⟩, ⟨#[100, 114, 97, 119, 101, 114, 32, 104, 101, 114, 111, 110]⟩]
def seasonL (u : Bool) (qs : List Quad) : List ByteArray := firstL ++ (qs.take 24).map (lineS u)
theorem season_le (u : Bool) (qs : List Quad) : (seasonL u qs).length ≤ 30 := by
  unfold seasonL
  rw [List.length_append, List.length_map, List.length_take]
  have : firstL.length = 6 := rfl
  omega
/-- the names that lines tell: short -/
def Short (n : Nat) (s : ByteArray) : Prop := s.size ≤ n
theorem one_short {l : List ByteArray} {n : Nat} (h : ∀ s ∈ l, s.size ≤ n) (x : Nat) : (oneP l x).size ≤ n := by
  unfold oneP
  rw [List.getD_eq_getElem?_getD]
  cases hq : l[x % l.length]? with
  | none => exact Nat.zero_le _
  | some s => exact h s (List.mem_of_getElem? hq)
section
variable {w w' : World} {B n : Nat} {P : Option Addr} {qs : List Quad}
theorem RQuads.below (h : RQuads w B P n qs) (hb : Below B w w') : RQuads w' B P n qs := by
  obtain ⟨h1, h2, h3⟩ := h
  refine ⟨h1, h2, fun hn => ?_⟩
  obtain ⟨b, o, e, hB, hr⟩ := h3 hn
  refine ⟨b, o, e, hB, fun i q hq j v hv => ?_⟩
  have := hr i q hq j v hv
  rw [← this]
  exact hb.cell hB
theorem RQuads.later (h : RQuads w w.heap.size P n qs) (hb : Below w.heap.size w w') : RQuads w' w.heap.size P n qs := h.below hb
theorem RQuads.at_world (h : RQuads w w.heap.size P n qs) (hb : Below w.heap.size w w') : RQuads w' w'.heap.size P n qs := by
  obtain ⟨h1, h2, h3⟩ := h.later hb
  refine ⟨h1, h2, fun hn => ?_⟩
  obtain ⟨b, o, e, hB, hr⟩ := h3 hn
  exact ⟨b, o, e, Nat.lt_of_lt_of_le hB hb.size, hr⟩
theorem RQuads.at_ {i : Nat} (h : RQuads w B P n qs) (hi : i < n) : ∃ b o q, P = some ⟨b, o, none⟩ ∧ b < B ∧ w.rangeAt b (o + i * 4) q.vals ∧ q.Ok ∧ Hid (qs[i]? = some q) := by
  obtain ⟨h1, h2, h3⟩ := h
  obtain ⟨b, o, e, hB, hr⟩ := h3 (by omega)
  have hl : i < qs.length := by omega
  have hq : qs[i]? = some qs[i] := List.getElem?_eq_getElem hl
  exact ⟨b, o, qs[i], e, hB, hr i _ hq, h2 _ (List.getElem_mem hl), hq⟩
end
end Dr
end Go.Proofs.YtbgakdpbglpfaaaGreatDoor
