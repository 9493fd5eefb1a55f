/- A book is what its lines tell: plain. -/
import Derived.Test.YtbgakdpbglpfaaaGreatDoorDrXf
namespace Go.Proofs.YtbgakdpbglpfaaaGreatDoor
namespace Dr
/-- books that lines have led to -/
inductive Rep : Book → Prop
  | new : Rep Book.new
  | done {b : Book} (x : ByteArray) : Rep b → b.would x = 0 → Rep (b.done x)
theorem done_ok {b : Book} {x : ByteArray} (h : b.would x = 0) : (b.done x).lines = b.lines ++ [x] := by
  unfold Book.done
  rw [if_pos h]
theorem done_no {b : Book} {x : ByteArray} (h : b.would x ≠ 0) : b.done x = b := by
  unfold Book.done
  rw [if_neg h]
theorem Rep.step {b : Book} (h : Rep b) (x : ByteArray) : Rep (b.done x) := by
  by_cases h0 : b.would x = 0
  · exact h.done x h0
  · rw [done_no h0]; exact h
theorem Rep.fold (ls : List ByteArray) : ∀ {b : Book}, Rep b → Rep (ls.foldl Book.done b) := by
  induction ls with
  | nil => exact fun h => h
  | cons x ls ih => exact fun h => ih (h.step x)
theorem Rep.told (ls : List ByteArray) : Rep (Book.told ls) := Rep.fold ls .new
theorem Rep.undo {b : Book} (h : Rep b) : Rep b.undo.2 := by
  unfold Book.undo
  by_cases h0 : b.lines.isEmpty = true
  · rw [if_pos h0]; exact h
  · rw [if_neg h0]; exact Rep.told _
theorem Rep.eq {b : Book} (h : Rep b) : Book.told b.lines = b := by
  induction h with
  | new => rfl
  | done x h h0 ih => rw [done_ok h0, told_snoc, ih]
theorem Rep.would {b : Book} (h : Rep b) : ∀ {i : Nat} {x : ByteArray}, b.lines[i]? = some x → (Book.told (b.lines.take i)).would x = 0 := by
  induction h with
  | new => intro i x hx; cases hx
  | @done b y h h0 ih =>
    intro i x hx
    rw [done_ok h0] at hx ⊢
    rcases Nat.lt_or_ge i b.lines.length with hi | hi
    · rw [List.getElem?_append_left hi] at hx
      rw [List.take_append_of_le_length (Nat.le_of_lt hi)]
      exact ih hx
    · rw [List.getElem?_append_right hi] at hx
      have hi0 : i = b.lines.length := by
        have := (List.getElem?_eq_some_iff.1 hx).1
        rw [List.length_singleton] at this
        omega
      subst hi0
      rw [Nat.sub_self] at hx
      injection hx with hx
      subst hx
      rw [List.take_left', h.eq]
      · exact h0
      · rfl
theorem Rep.take {b : Book} (h : Rep b) (i : Nat) : (Book.told (b.lines.take i)).lines = b.lines.take i := by
  induction i with
  | zero => rfl
  | succ i ih =>
    rw [List.take_add_one]
    cases hx : b.lines[i]? with
    | none => rw [Option.toList_none, List.append_nil]; exact ih
    | some x => rw [Option.toList_some, told_snoc, done_ok (h.would hx), ih]
theorem step_take {b : Book} {i : Nat} {x : ByteArray} (hx : b.lines[i]? = some x) : (Book.told (b.lines.take i)).done x = Book.told (b.lines.take (i + 1)) := by
  rw [List.take_add_one, hx, Option.toList_some, told_snoc]
/-- the line that was done last is taken back -/
theorem Rep.back {b : Book} (h : Rep b) {x : ByteArray} (h0 : b.would x = 0) : (b.done x).undo = (0, b) := by
  unfold Book.undo
  rw [done_ok h0, if_neg (by simp), List.dropLast_concat, h.eq]
theorem Rep.undo_take {b : Book} (h : Rep b) {i : Nat} (hi : i < b.lines.length) : (Book.told (b.lines.take (i + 1))).undo = (0, Book.told (b.lines.take i)) := by
  obtain ⟨x, hx⟩ : ∃ x, b.lines[i]? = some x := ⟨_, List.getElem?_eq_getElem hi⟩
  unfold Book.undo
  rw [h.take, List.take_add_one, hx, Option.toList_some, if_neg (by simp), List.dropLast_concat]
theorem undo_new : Book.new.undo = (4, Book.new) := rfl
/-- lines of a season: the word undo takes back the last one -/
def undoB : ByteArray := ⟨#[117, 110, 100, 111]⟩
def bookS (b : Book) (x : ByteArray) : Book := if x = undoB then b.undo.2 else b.done x
def bookP (ls : List ByteArray) : Book := ls.foldl bookS Book.new
theorem bookP_snoc (ls : List ByteArray) (x : ByteArray) : bookP (ls ++ [x]) = bookS (bookP ls) x := by
  unfold bookP
  rw [List.foldl_append, List.foldl_cons, List.foldl_nil]
theorem Rep.bookS {b : Book} (h : Rep b) (x : ByteArray) : Rep (bookS b x) := by
  unfold Dr.bookS
  by_cases h0 : x = undoB
  · rw [if_pos h0]; exact h.undo
  · rw [if_neg h0]; exact h.step x
theorem Rep.bookP (ls : List ByteArray) : Rep (bookP ls) := by
  have h : ∀ (ls : List ByteArray) {b : Book}, Rep b → Rep (ls.foldl Dr.bookS b) := by
    intro ls
    induction ls with
    | nil => exact fun h => h
    | cons x ls ih => exact fun h => ih (h.bookS x)
  exact h ls .new
end Dr
end Go.Proofs.YtbgakdpbglpfaaaGreatDoor
