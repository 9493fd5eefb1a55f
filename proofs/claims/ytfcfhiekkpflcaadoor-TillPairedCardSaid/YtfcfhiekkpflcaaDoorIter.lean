/- A range over a string of ASCII letters; an own list that is returned. -/
import Derived.Test.YtfcfhiekkpflcaaDoorBase
import Derived.Test.YtfcfhiekkpflcaaDoorPush
import Derived.Test.YtfcfhiekkpflcaaDoorShelf
import Derived.Lib.OthersKept
import Derived.Laws.Runes
import Derived.Laws.RangeAny
import Derived.Deep.RegionHeld3
import Derived.BigQuiet
import Derived.Laws.MakeOwn
namespace Go.Proofs.YtfcfhiekkpflcaaDoor
open Go.RowKit
theorem iter_next {wr : World} {k pos : Nat} {s : ByteArray} {y : UInt8} (hit : wr.heap[k]? = some (.stringIter s pos)) (hp : pos < s.size) (hy : (bts s)[pos]? = some y) (h128 : y.toNat < 128) :
    ∃ wn : World, (∀ ty, (Instr.next (.pointer (some ⟨k, 0, none⟩)) true ty).run Tryd.prog wr = .ok (.tuple #[.bool true, .int .i64 pos, .int .i32 y.toNat]) wn) ∧ wn.heap[k]? = some (.stringIter s (pos + 1)) ∧ wr.grownBy wn (some k) := by
  have hyb : s[pos]'hp = y := by
    have := bts_at s pos hp
    rw [hy] at this
    injection this with this
    exact this.symm
  refine ⟨wr.iterAt k s (pos + 1), fun ty => ?_, Lib.iterAt_heap wr k s pos (pos + 1) hit, rfl, rfl, rfl, ?_, fun g _ hne => Lib.iterAt_other wr k g s (pos + 1) (fun e => hne (by rw [e]))⟩
  · rw [Lib.run_next_ascii_at wr k s pos ty hit hp (by rw [hyb]; omega), hyb]
  · have := Lib.iterAt_size wr k s (pos + 1)
    omega
theorem iter_cn {wr : World} {k pos : Nat} {s : ByteArray} (hok : okT (bts s) = true) (hit : wr.heap[k]? = some (.stringIter s pos)) (hp : pos < s.size) :
    ∃ y wn, (bts s)[pos]? = some y ∧ wn.heap[k]? = some (.stringIter s (pos + 1)) ∧ wr.grownBy wn (some k) ∧
      ((y = 99 ∧ ∀ ty, (Instr.next (.pointer (some ⟨k, 0, none⟩)) true ty).run Tryd.prog wr = .ok (.tuple #[.bool true, .int .i64 pos, .int .i32 99]) wn) ∨
       (y = 110 ∧ ∀ ty, (Instr.next (.pointer (some ⟨k, 0, none⟩)) true ty).run Tryd.prog wr = .ok (.tuple #[.bool true, .int .i64 pos, .int .i32 110]) wn)) := by
  obtain ⟨y, hy⟩ : ∃ y, (bts s)[pos]? = some y := ⟨_, bts_at s pos hp⟩
  have hyy := okT_at hok (List.mem_of_getElem? hy)
  obtain ⟨wn, h1, h2, h3⟩ := iter_next hit hp hy (by rcases hyy with rfl | rfl <;> decide)
  refine ⟨y, wn, hy, h2, h3, ?_⟩
  rcases hyy with rfl | rfl
  · exact Or.inl ⟨rfl, h1⟩
  · exact Or.inr ⟨rfl, h1⟩
theorem iter_end {wr : World} {k pos : Nat} {s : ByteArray} (hit : wr.heap[k]? = some (.stringIter s pos)) (hp : ¬ pos < s.size) : ∀ ty, (Instr.next (.pointer (some ⟨k, 0, none⟩)) true ty).run Tryd.prog wr = .ok (.tuple #[.bool false]) wr :=
  fun ty => Lib.run_next_end_at wr k s pos ty hit hp
theorem heap_lt {w : World} {k : Nat} {o : Obj} (h : w.heap[k]? = some o) : k < w.heap.size := by
  rcases Nat.lt_or_ge k w.heap.size with h1 | h1
  · exact h1
  · rw [Array.getElem?_eq_none h1] at h; cases h
/-- an iterator stays where a row grows -/
theorem iter_stay {w w' : World} {k : Nat} {o : Obj} {row : Option Nat} (h : w.heap[k]? = some o) (hg : w.grownBy w' row) (hne : some k ≠ row) : w'.heap[k]? = some o := (hg.block k (heap_lt h) hne).trans h
theorem OwnI.ne_iter {w : World} {base k pos : Nat} {v : Value} {xs : List Int} {s : ByteArray} (h : OwnI w base v xs) (hit : w.heap[k]? = some (.stringIter s pos)) : v.ownBlock ≠ some k := by
  rcases h.2 with ⟨rfl, _⟩ | ⟨g, cap, cur, rfl, _, hg, _⟩
  · simp [Value.ownBlock]
  · intro e
    obtain rfl : g = k := by simpa [Value.ownBlock] using e
    rw [hit] at hg
    cases hg
theorem make_own (n : Nat) (hn : n ≤ 1000000) (w : World) : ∃ w', (Instr.makeSlice 23 (.int .i64 0) (.int .i64 (n : Int))).run Tryd.prog w = .ok (.slice (some ⟨w.heap.size, 0, none⟩) 0 n) w' ∧ OwnI w' w.heap.size (.slice (some ⟨w.heap.size, 0, none⟩) 0 n) [] ∧ w.grownBy w' none := by
  obtain ⟨i0, hi0, hz0, hz1, hz2⟩ := info_parts infoInt
  exact run_makeSlice_owned w w.heap.size 23 3 i0 (.int .i64 0) 1 Tryd.underlying23 hi0 hz0 hz1 .i64 .i64 n (by omega) (by rw [hz2]; omega) (by simp only [maxLen]; omega) (Nat.le_refl _)
/-- an own list of ints is returned -/
def RetI (xs : List Int) (w : World) (e : Ending) (w' : World) : Prop := ∃ v, e = .returned v ∧ OwnI w' w.heap.size v xs ∧ Below w.heap.size w w'
/-- an own list of ints, and an error -/
def RetIE (xs : List Int) (err : Int) (w : World) (e : Ending) (w' : World) : Prop := ∃ v, e = .returned (.tuple #[v, .int .i64 err]) ∧ OwnI w' w.heap.size v xs ∧ Below w.heap.size w w'
theorem OwnI.rebase {w : World} {b b' : Nat} {v : Value} {xs : List Int} (h : OwnI w b v xs) (hb : b' ≤ b) : OwnI w b' v xs := by
  refine ⟨h.1, ?_⟩
  rcases h.2 with h0 | ⟨g, cap, cur, rfl, hg, r⟩
  · exact .inl h0
  · exact .inr ⟨g, cap, cur, rfl, Nat.le_trans hb hg, r⟩
theorem OwnI.full {w : World} {base : Nat} {v : Value} {xs : List Int} (h : OwnI w base v xs) (hne : 0 < xs.length) : ∃ g c, v = .slice (some ⟨g, 0, none⟩) xs.length c ∧ xs.length ≤ c ∧ base ≤ g ∧ g < w.heap.size ∧ ∀ j, j < xs.length → w.cell? ⟨g, j, none⟩ = some (.int .i64 (xs.getD j 0)) := by
  have hr := h.reads
  rcases h.2 with ⟨_, h0⟩ | ⟨g, cap, cur, rfl, hb, hg, hc, _⟩
  · omega
  · obtain ⟨A, c, he, hr⟩ := hr
    obtain ⟨rfl, rfl⟩ : some ⟨g, 0, none⟩ = A ∧ cap = c := by injection he with h1 _ h2; exact ⟨h1, h2⟩
    refine ⟨g, cap, rfl, hc, hb, h.lt rfl, fun j hj => ?_⟩
    obtain ⟨ad, u, hA, _, hu, hcell⟩ := Reads.at_ hr hj
    obtain rfl : (⟨g, 0, none⟩ : Addr) = ad := by injection hA
    rw [ints_get xs j hj] at hu
    injection hu with hu
    rw [hu, ← hcell]
    congr 1
    unfold Addr.add
    split <;> simp_all
theorem below_iter {B : Nat} {w : World} (s : ByteArray) (hB : B ≤ w.heap.size) : Below B w (w.alloc (.stringIter s 0)) := (Below.refl _ _).alloc hB _
end Go.Proofs.YtfcfhiekkpflcaaDoor
