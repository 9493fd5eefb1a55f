/- A book in memory and all that holds of it, in one bundle; told. -/
import Derived.Test.YtbgakdpbglpfaaaGreatDoorDrXb
namespace Go.Proofs.YtbgakdpbglpfaaaGreatDoor
open Go.RowKit
namespace Dr
set_option linter.unusedSimpArgs false
/-- the library's tables -/
def Tabs (w : World) : Prop := MaxL w ∧ Itb w
/-- a book that was made behind world w0 -/
structure Bk (w0 w : World) (gb : Nat) (B : Book) : Prop where
  at_ : ∃ V vl, BookAt w V gb vl B ∧ ∀ i, BFoot V gb vl i → w0.heap.size ≤ i
  inv : BInv B
  short : LShort B
  below : Below w0.heap.size w0 w
section
variable {w0 w1 w w' : World} {gb : Nat} {B : Book}
theorem Tabs.below (h : Tabs w) (hb : Below w.heap.size w w') : Tabs w' := ⟨h.1.below hb, h.2.below hb⟩
theorem Bk.callee (h : Bk w0 w gb B) (hb : Below w.heap.size w w') : Bk w0 w' gb B := by
  obtain ⟨⟨V, vl, H, hf⟩, I, L, hb0⟩ := h
  exact ⟨⟨V, vl, H.callee hb, hf⟩, I, L, hb0.trans (hb.mono hb0.size)⟩
theorem Bk.base (h : Bk w1 w gb B) (hb : Below w0.heap.size w0 w1) : Bk w0 w gb B := by
  obtain ⟨⟨V, vl, H, hf⟩, I, L, hb1⟩ := h
  exact ⟨⟨V, vl, H, fun i hi => Nat.le_trans hb.size (hf i hi)⟩, I, L, hb.trans (hb1.mono hb.size)⟩
/-- what a method that turns the book leaves -/
theorem Bk.post {V : Vals} {vl : Value} (hf : ∀ i, BFoot V gb vl i → w0.heap.size ≤ i) (hb : Below w0.heap.size w0 w) {B' : Book} (I : BInv B') (L : LShort B') {R : Int} {e : Ending} (h : BookPost V gb vl w B' R e w') : e = .returned (.int .i64 R) ∧ Bk w0 w' gb B' := by
  obtain ⟨rfl, V', vl', H', F⟩ := h
  refine ⟨rfl, ⟨V', vl', H', fun i hi => ?_⟩, I, L, F.os.trans hb.os, F.tape.trans hb.tape, F.output.trans hb.output, Nat.le_trans hb.size F.size, fun i hi => ?_⟩
  · rcases F.foot i hi with h | h
    · exact hf i h
    · exact Nat.le_trans hb.size h
  · rw [F.block i (Nat.lt_of_lt_of_le hi hb.size) (fun h => absurd (hf i h) (Nat.not_le.2 hi)), hb.block i hi]
theorem bk_new (hb : Below w0.heap.size w0 w) : Calls Tryz.prog 15 #[] w fun e w' => ∃ gb, e = .returned (.pointer (some ⟨gb, 0, none⟩)) ∧ Bk w0 w' gb Book.new ∧ Below w.heap.size w w' := by
  refine (new_any w).mono ?_
  rintro e w' ⟨V, gb, rfl, H, hb', hf⟩
  exact ⟨gb, rfl, ⟨⟨V, _, H, fun i hi => Nat.le_trans hb.size (hf i hi)⟩, .new, .new, hb.trans (hb'.mono hb.size)⟩, hb'⟩
theorem bk_do (T : Tabs w0) (h : Bk w0 w gb B) (line : ByteArray) {E : Int} {B' : Book} (h1 : B.would line = E) (h2 : B.done line = B') :
    Calls Tryz.prog 20 #[.pointer (some ⟨gb, 0, none⟩), .string line] w fun e w' => e = .returned (.int .i64 E) ∧ Bk w0 w' gb B' := by
  obtain ⟨⟨V, vl, H, hf⟩, I, L, hb⟩ := h
  subst h1 h2
  exact (do_any H I (T.below hb).1 line).mono fun e w' h => Bk.post hf hb (I.done line) (L.done line) h
theorem bk_would (T : Tabs w0) (h : Bk w0 w gb B) (line : ByteArray) {E : Int} (h1 : B.would line = E) :
    Calls Tryz.prog 19 #[.pointer (some ⟨gb, 0, none⟩), .string line] w fun e w' => e = .returned (.int .i64 E) ∧ Bk w0 w' gb B := by
  obtain ⟨⟨V, vl, H, hf⟩, I, L, hb⟩ := h
  subst h1
  exact (would_any H I (T.below hb).1 line).mono fun e w' h => Bk.post hf hb I L h
theorem bk_undo (T : Tabs w0) (h : Bk w0 w gb B) {E : Int} {B' : Book} (h1 : B.undo = (E, B')) :
    Calls Tryz.prog 17 #[.pointer (some ⟨gb, 0, none⟩)] w fun e w' => e = .returned (.int .i64 E) ∧ Bk w0 w' gb B' := by
  obtain ⟨⟨V, vl, H, hf⟩, I, L, hb⟩ := h
  refine (undo_any H I (T.below hb).1 (fun i hi => Nat.lt_of_lt_of_le T.1.lt (hf i hi))).mono fun e w' h => ?_
  have := Bk.post hf hb I.undo L.undo h
  rw [h1] at this
  exact this
theorem bk_rowN {r : List Nat × Int} {e : Ending} (h : Bk w0 w gb B) (hp : RowN w r e w') : ∃ v, e = .returned (.tuple #[v, .int .i64 r.2]) ∧ OwnN w' v r.1 ∧ Bk w0 w' gb B ∧ Below w.heap.size w w' := by
  obtain ⟨v, rfl, hN, hb⟩ := hp
  exact ⟨v, rfl, hN.1, h.callee hb, hb⟩
theorem bk_rowT {r : List ByteArray × Int} {e : Ending} (h : Bk w0 w gb B) (hp : RowT w r e w') : ∃ v, e = .returned (.tuple #[v, .int .i64 r.2]) ∧ OwnT w' v r.1 ∧ Bk w0 w' gb B ∧ Below w.heap.size w w' := by
  obtain ⟨v, rfl, hN, hb⟩ := hp
  exact ⟨v, rfl, hN.1, h.callee hb, hb⟩
theorem bk_rowO {r : List ByteArray} {e : Ending} (h : Bk w0 w gb B) (hp : RowO w r e w') : ∃ v, e = .returned v ∧ OwnT w' v r ∧ Bk w0 w' gb B ∧ Below w.heap.size w w' := by
  obtain ⟨v, rfl, hN, hb⟩ := hp
  exact ⟨v, rfl, hN.1, h.callee hb, hb⟩
theorem bk_sizes (h : Bk w0 w gb B) (d : ByteArray) {r : List Nat × Int} (h1 : B.ask d [] (·.sizes) = r) : Calls Tryz.prog 28 #[.pointer (some ⟨gb, 0, none⟩), .string d] w fun e w' => ∃ v, e = .returned (.tuple #[v, .int .i64 r.2]) ∧ OwnN w' v r.1 ∧ Bk w0 w' gb B ∧ Below w.heap.size w w' := by
  subst h1
  obtain ⟨V, vl, H, _⟩ := h.at_
  exact (sizes_any H h.inv d).mono fun e w' hp => bk_rowN h hp
theorem bk_stock (h : Bk w0 w gb B) (d : ByteArray) {r : List Nat × Int} (h1 : B.ask d [] (·.stock) = r) : Calls Tryz.prog 29 #[.pointer (some ⟨gb, 0, none⟩), .string d] w fun e w' => ∃ v, e = .returned (.tuple #[v, .int .i64 r.2]) ∧ OwnN w' v r.1 ∧ Bk w0 w' gb B ∧ Below w.heap.size w w' := by
  subst h1
  obtain ⟨V, vl, H, _⟩ := h.at_
  exact (stock_any H h.inv d).mono fun e w' hp => bk_rowN h hp
theorem bk_could (h : Bk w0 w gb B) (d : ByteArray) {r : List Nat × Int} (h1 : B.ask d [] couldC = r) : Calls Tryz.prog 31 #[.pointer (some ⟨gb, 0, none⟩), .string d] w fun e w' => ∃ v, e = .returned (.tuple #[v, .int .i64 r.2]) ∧ OwnN w' v r.1 ∧ Bk w0 w' gb B ∧ Below w.heap.size w w' := by
  subst h1
  obtain ⟨V, vl, H, _⟩ := h.at_
  exact (could_any H h.inv d).mono fun e w' hp => bk_rowN h hp
theorem bk_filled (h : Bk w0 w gb B) (d : ByteArray) {r : List Nat × Int} (h1 : B.filled d = r) : Calls Tryz.prog 30 #[.pointer (some ⟨gb, 0, none⟩), .string d] w fun e w' => ∃ v, e = .returned (.tuple #[v, .int .i64 r.2]) ∧ OwnN w' v r.1 ∧ Bk w0 w' gb B ∧ Below w.heap.size w w' := by
  subst h1
  obtain ⟨V, vl, H, _⟩ := h.at_
  exact (filled_any H h.inv d).mono fun e w' hp => bk_rowN h hp
theorem bk_out (h : Bk w0 w gb B) (d : ByteArray) {r : List ByteArray × Int} (h1 : B.ask d [] (·.out) = r) : Calls Tryz.prog 32 #[.pointer (some ⟨gb, 0, none⟩), .string d] w fun e w' => ∃ v, e = .returned (.tuple #[v, .int .i64 r.2]) ∧ OwnT w' v r.1 ∧ Bk w0 w' gb B ∧ Below w.heap.size w w' := by
  subst h1
  obtain ⟨V, vl, H, _⟩ := h.at_
  exact (out_any H h.inv d).mono fun e w' hp => bk_rowT h hp
theorem bk_lines (h : Bk w0 w gb B) {r : List ByteArray} (h1 : B.lines = r) : Calls Tryz.prog 23 #[.pointer (some ⟨gb, 0, none⟩)] w fun e w' => ∃ v, e = .returned v ∧ OwnT w' v r ∧ Bk w0 w' gb B ∧ Below w.heap.size w w' := by
  subst h1
  obtain ⟨V, vl, H, _⟩ := h.at_
  exact (lines_any H h.inv).mono fun e w' hp => bk_rowO h hp
theorem bk_drawers (h : Bk w0 w gb B) {r : List ByteArray} (h1 : B.house.chests.map (·.1) = r) : Calls Tryz.prog 35 #[.pointer (some ⟨gb, 0, none⟩)] w fun e w' => ∃ v, e = .returned v ∧ OwnT w' v r ∧ Bk w0 w' gb B ∧ Below w.heap.size w w' := by
  subst h1
  obtain ⟨V, vl, H, _⟩ := h.at_
  exact (drawers_any H h.inv).mono fun e w' hp => bk_rowO h hp
theorem bk_next (h : Bk w0 w gb B) (d : ByteArray) (n : Int) {x E : Int} (h1 : B.nextB d n = (x, E)) : Calls Tryz.prog 33 #[.pointer (some ⟨gb, 0, none⟩), .string d, .int .i64 n] w fun e w' => e = .returned (.tuple #[.int .i64 x, .int .i64 E]) ∧ Bk w0 w' gb B ∧ Below w.heap.size w w' := by
  obtain ⟨V, vl, H, _⟩ := h.at_
  refine (next_any H h.inv d n).mono ?_
  rintro e w' ⟨rfl, hb⟩
  rw [h1]
  exact ⟨rfl, h.callee hb, hb⟩
theorem bk_feathers (h : Bk w0 w gb B) (d : ByteArray) {r : (Nat × Nat × Nat × Nat) × Int} (h1 : B.feathers d = r) : Calls Tryz.prog 34 #[.pointer (some ⟨gb, 0, none⟩), .string d] w fun e w' => e = .returned (feathV r) ∧ Bk w0 w' gb B ∧ Below w.heap.size w w' := by
  subst h1
  obtain ⟨V, vl, H, _⟩ := h.at_
  exact (feathers_any H h.inv d).mono fun e w' hp => ⟨hp.1, h.callee hp.2, hp.2⟩
theorem bk_file (T : Tabs w0) (h : Bk w0 w gb B) {r : ByteArray} (h1 : bstr (fileL B.lines) = r) : Calls Tryz.prog 25 #[.pointer (some ⟨gb, 0, none⟩)] w fun e w' => e = .returned (.string r) ∧ Bk w0 w' gb B ∧ Below w.heap.size w w' := by
  subst h1
  obtain ⟨V, vl, H, _⟩ := h.at_
  exact (file_any H h.inv h.short (T.below h.below).2).mono fun e w' hp => ⟨hp.1, h.callee hp.2, hp.2⟩
theorem list_same (w : World) (v : Value) : Calls Tryz.prog 53 #[v] w fun e w' => e = .returned v ∧ w' = w := by
  go_enter Tryz.func53, Tryz.ntmps53
  go_wp2_with (fail)
  go_ret
  exact ⟨rfl, rfl⟩
theorem numbers_same (w : World) (v : Value) : Calls Tryz.prog 51 #[v] w fun e w' => e = .returned v ∧ w' = w := by
  go_enter Tryz.func51, Tryz.ntmps51
  go_wp2_with (fail)
  go_ret
  exact ⟨rfl, rfl⟩
/-- what told makes of lines -/
def toldS (p : Book × Bool) (l : ByteArray) : Book × Bool := (p.1.done l, decide (p.1.would l = 0) && p.2)
def toldP (ls : List ByteArray) : Book × Bool := ls.foldl toldS (Book.new, true)
theorem toldP_snoc (ls : List ByteArray) (l : ByteArray) : toldP (ls ++ [l]) = toldS (toldP ls) l := by
  unfold toldP
  rw [List.foldl_append, List.foldl_cons, List.foldl_nil]
set_option maxRecDepth 100000 in
set_option maxHeartbeats 2000000 in
theorem told_any (T : Tabs w) (A : Option Addr) (n c : Nat) (ls : List ByteArray) (hn : n ≤ 1000) (hr : RStrs w w.heap.size A n ls) :
    Calls Tryz.prog 49 #[.slice A n c] w fun e w' => ∃ gb, e = .returned (.tuple #[.pointer (some ⟨gb, 0, none⟩), .bool (toldP ls).2]) ∧ Bk w w' gb (toldP ls).1 := by
  have HN := Lib.hid (bk_new (Below.refl w.heap.size w))
  have HL := Lib.hid hr.len
  have HT := Lib.hid T
  go_enter Tryz.func49, Tryz.ntmps49
  go_wp2_with (go_at_call 15; (with_reducible refine HN.out.mono ?_); rintro e w1 ⟨gb, rfl, hB1, _⟩)
  go_loopw [5, 6] (fun t v wr => ∃ i : Nat, i ≤ n ∧ v = .int .i64 i ∧ t = .bool (toldP (ls.take i)).2 ∧ Bk w wr gb (toldP (ls.take i)).1) (fun _ v _ => n - (intOf v).toNat)
  case atStart => exact ⟨0, Nat.zero_le _, rfl, rfl, hB1⟩
  case round =>
    clear hB1
    obtain ⟨i, hi, rfl, rfl, hB⟩ := hrel
    have hrs := hr.later (Nat.le_refl _) hB.below
    by_cases hlt : i < n
    · have hlti : (i : Int) < n := by omega
      have hi0 : (0 : Int) ≤ i := by omega
      obtain ⟨ad, l, rfl, _, hcl, hl⟩ := hrs.at_ hlt
      have hNX : Hid (toldP (ls.take (i + 1)) = toldS (toldP (ls.take i)) l) := by
        rw [Hid, List.take_add_one, hl.out, Option.toList_some, toldP_snoc]
      obtain ⟨⟨b, a⟩, hp⟩ : ∃ q, toldP (ls.take i) = q := ⟨_, rfl⟩
      rw [hp] at hB hNX ⊢
      clear hp
      have HD := Lib.hid (bk_do HT.out hB l rfl rfl)
      obtain ⟨E, hE⟩ : ∃ q, b.would l = q := ⟨_, rfl⟩
      rw [hE] at HD
      have hS : toldS (b, a) l = (b.done l, decide (E = 0) && a) := by unfold toldS; rw [hE]
      rw [hS] at hNX
      clear hE hS hl
      by_cases h0 : E = 0
      · subst h0
        go_wp2_with (go_at_call 20; (with_reducible refine HD.out.mono ?_); rintro e w3 ⟨rfl, hB3⟩)
        go_roundw
        case rel => exact ⟨i + 1, by omega, by go_num, by rw [hNX.out]; simp, by rw [hNX.out]; exact hB3⟩
        case measure => simp only [intOf]; omega
      · have hE0 : (E == 0) = false := by simpa using h0
        go_wp2_with (go_at_call 20; (with_reducible refine HD.out.mono ?_); rintro e w3 ⟨rfl, hB3⟩)
        go_roundw
        case rel => exact ⟨i + 1, by omega, by go_num, by rw [hNX.out, decide_eq_false h0]; rfl, by rw [hNX.out]; exact hB3⟩
        case measure => simp only [intOf]; omega
    · obtain rfl : i = n := by omega
      have hlti : ¬ (i : Int) < i := by omega
      rw [List.take_of_length_le (by have := HL.out; omega)] at hB ⊢
      go_wp2_with (fail)
      go_ret2
      exact ⟨_, rfl, hB⟩
end
end Dr
end Go.Proofs.YtbgakdpbglpfaaaGreatDoor
