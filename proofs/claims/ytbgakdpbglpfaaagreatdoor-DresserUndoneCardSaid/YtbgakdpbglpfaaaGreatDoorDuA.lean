/- Two books in one world; the blocks that stand as they are. -/
import Derived.Test.YtbgakdpbglpfaaaGreatDoorDrXf
namespace Go.Proofs.YtbgakdpbglpfaaaGreatDoor
open Go.RowKit
namespace Dr
set_option linter.unusedSimpArgs false
/-- the blocks F stand as they did -/
structure Keep (F : Nat → Prop) (w w' : World) : Prop where
  os : w'.os = w.os
  tape : w'.tape = w.tape
  output : w'.output = w.output
  size : w.heap.size ≤ w'.heap.size
  block : ∀ i, F i → w'.heap[i]? = w.heap[i]?
theorem Keep.trans {F : Nat → Prop} {w w' w'' : World} (h : Keep F w w') (h' : Keep F w' w'') : Keep F w w'' :=
  ⟨h'.os.trans h.os, h'.tape.trans h.tape, h'.output.trans h.output, Nat.le_trans h.size h'.size, fun i hi => (h'.block i hi).trans (h.block i hi)⟩
theorem Keep.of_below {F : Nat → Prop} {w w' : World} (h : Below w.heap.size w w') (hF : ∀ i, F i → i < w.heap.size) : Keep F w w' :=
  ⟨h.os, h.tape, h.output, h.size, fun i hi => h.block i (hF i hi)⟩
theorem Keep.row {F : Nat → Prop} {w w' : World} {v : Value} {ls : List ByteArray} (h : Keep F w w') (hF : ∀ g, blkOf v = some g → F g) (ho : OwnT w v ls) : OwnT w' v ls :=
  OwnS.same ho fun j hj => h.block j (hF j hj)
/-- two books behind world w0, apart from each other and from the blocks F -/
structure Bs (F : Nat → Prop) (w0 w : World) (ga : Nat) (A : Book) (gb : Nat) (B : Book) : Prop where
  at_ : ∃ V vl U ul, BookAt w V ga vl A ∧ BookAt w U gb ul B ∧ (∀ i, BFoot V ga vl i → ¬ F i) ∧ (∀ i, BFoot U gb ul i → ¬ F i) ∧ ∀ i, BFoot V ga vl i → ¬ BFoot U gb ul i
  lt : ∀ i, F i → i < w.heap.size
  lo : ∀ i, i < w0.heap.size → F i
  invA : BInv A
  shA : LShort A
  invB : BInv B
  shB : LShort B
  below : Below w0.heap.size w0 w
section
variable {F : Nat → Prop} {w0 w1 w w' : World} {ga gb : Nat} {A A' B : Book}
theorem Bs.swap (h : Bs F w0 w ga A gb B) : Bs F w0 w gb B ga A := by
  obtain ⟨⟨V, vl, U, ul, h1, h2, h3, h4, h5⟩, lt, lo, ia, sa, ib, sb, hb⟩ := h
  exact ⟨⟨U, ul, V, vl, h2, h1, h4, h3, fun i hi hj => h5 i hj hi⟩, lt, lo, ib, sb, ia, sa, hb⟩
theorem Bs.left (h : Bs F w0 w ga A gb B) : Bk w0 w ga A := by
  obtain ⟨⟨V, vl, U, ul, h1, h2, h3, h4, h5⟩, lt, lo, ia, sa, ib, sb, hb⟩ := h
  exact ⟨⟨V, vl, h1, fun i hi => Nat.not_lt.1 fun hl => h3 i hi (lo i hl)⟩, ia, sa, hb⟩
theorem Bs.right (h : Bs F w0 w ga A gb B) : Bk w0 w gb B := h.swap.left
theorem Bs.callee (h : Bs F w0 w ga A gb B) (hb : Below w.heap.size w w') : Bs F w0 w' ga A gb B := by
  obtain ⟨⟨V, vl, U, ul, h1, h2, h3, h4, h5⟩, lt, lo, ia, sa, ib, sb, hb0⟩ := h
  exact ⟨⟨V, vl, U, ul, h1.callee hb, h2.callee hb, h3, h4, h5⟩, fun i hi => Nat.lt_of_lt_of_le (lt i hi) hb.size, lo, ia, sa, ib, sb, hb0.trans (hb.mono hb0.size)⟩
/-- a new row is kept as well -/
theorem Bs.guard (h : Bs F w0 w ga A gb B) (hb : Below w.heap.size w w') {v : Value} {ls : List ByteArray} (ho : OwnT w' v ls) (hn : ∀ g, blkOf v = some g → w.heap.size ≤ g) : Bs (fun i => F i ∨ blkOf v = some i) w0 w' ga A gb B := by
  obtain ⟨⟨V, vl, U, ul, h1, h2, h3, h4, h5⟩, lt, lo, ia, sa, ib, sb, hb0⟩ := h
  refine ⟨⟨V, vl, U, ul, h1.callee hb, h2.callee hb, fun i hi hj => ?_, fun i hi hj => ?_, h5⟩, fun i hi => ?_, fun i hi => Or.inl (lo i hi), ia, sa, ib, sb, hb0.trans (hb.mono hb0.size)⟩
  · rcases hj with hj | hj
    · exact h3 i hi hj
    · exact absurd (h1.lt hi) (Nat.not_lt.2 (hn i hj))
  · rcases hj with hj | hj
    · exact h4 i hi hj
    · exact absurd (h2.lt hi) (Nat.not_lt.2 (hn i hj))
  · rcases hi with hi | hi
    · exact Nat.lt_of_lt_of_le (lt i hi) hb.size
    · exact ownS_lt ho hi
/-- what a method that turns one of the books leaves -/
theorem Bs.post {V U : Vals} {vl ul : Value} (_ : BookAt w V ga vl A) (h2 : BookAt w U gb ul B) (h3 : ∀ i, BFoot V ga vl i → ¬ F i) (h4 : ∀ i, BFoot U gb ul i → ¬ F i) (h5 : ∀ i, BFoot V ga vl i → ¬ BFoot U gb ul i)
    (lt : ∀ i, F i → i < w.heap.size) (lo : ∀ i, i < w0.heap.size → F i) (ia : BInv A') (sa : LShort A') (ib : BInv B) (sb : LShort B) (hb : Below w0.heap.size w0 w) {R : Int} {e : Ending} (hp : BookPost V ga vl w A' R e w') :
    e = .returned (.int .i64 R) ∧ Bs F w0 w' ga A' gb B ∧ Keep F w w' := by
  obtain ⟨rfl, V', vl', H', K⟩ := hp
  have hk : Keep F w w' := ⟨K.os, K.tape, K.output, K.size, fun i hi => K.block i (lt i hi) fun hf => h3 i hf hi⟩
  refine ⟨rfl, ⟨⟨V', vl', U, ul, H', h2.same fun i hi => K.block i (h2.lt hi) fun hf => h5 i hf hi, fun i hi hj => ?_, h4, fun i hi hj => ?_⟩, fun i hi => Nat.lt_of_lt_of_le (lt i hi) K.size, lo, ia, sa, ib, sb, ?_⟩, hk⟩
  · rcases K.foot i hi with h | h
    · exact h3 i h hj
    · exact absurd (lt i hj) (Nat.not_lt.2 h)
  · rcases K.foot i hi with h | h
    · exact h5 i h hj
    · exact absurd (h2.lt hj) (Nat.not_lt.2 h)
  · exact ⟨K.os.trans hb.os, K.tape.trans hb.tape, K.output.trans hb.output, Nat.le_trans hb.size K.size, fun i hi => (hk.block i (lo i hi)).trans (hb.block i hi)⟩
theorem bs_new (h : Bk w0 w gb B) : Calls Tryz.prog 15 #[] w fun e w' => ∃ ga, e = .returned (.pointer (some ⟨ga, 0, none⟩)) ∧ Bs (fun i => i < w0.heap.size) w0 w' ga Book.new gb B ∧ Below w.heap.size w w' := by
  obtain ⟨⟨U, ul, H, hf⟩, ib, sb, hb⟩ := h
  refine (new_any w).mono ?_
  rintro e w' ⟨V, ga, rfl, H', hb', hf'⟩
  exact ⟨ga, rfl, ⟨⟨V, _, U, ul, H', H.callee hb', fun i hi hj => by have := hf' i hi; have := hb.size; omega, fun i hi hj => by have := hf i hi; omega, fun i hi hj => by have := hf' i hi; have := H.lt hj; omega⟩,
    fun i hi => Nat.lt_of_lt_of_le hi (Nat.le_trans hb.size hb'.size), fun i hi => hi, .new, .new, ib, sb, hb.trans (hb'.mono hb.size)⟩, hb'⟩
theorem bs_do (T : Tabs w0) (h : Bs F w0 w ga A gb B) (line : ByteArray) {E : Int} {A' : Book} (e1 : A.would line = E) (e2 : A.done line = A') :
    Calls Tryz.prog 20 #[.pointer (some ⟨ga, 0, none⟩), .string line] w fun e w' => e = .returned (.int .i64 E) ∧ Bs F w0 w' ga A' gb B ∧ Keep F w w' := by
  obtain ⟨⟨V, vl, U, ul, h1, h2, h3, h4, h5⟩, lt, lo, ia, sa, ib, sb, hb⟩ := h
  subst e1 e2
  exact (do_any h1 ia (T.below hb).1 line).mono fun e w' hp => Bs.post h1 h2 h3 h4 h5 lt lo (ia.done line) (sa.done line) ib sb hb hp
theorem bs_would (T : Tabs w0) (h : Bs F w0 w ga A gb B) (line : ByteArray) {E : Int} (e1 : A.would line = E) :
    Calls Tryz.prog 19 #[.pointer (some ⟨ga, 0, none⟩), .string line] w fun e w' => e = .returned (.int .i64 E) ∧ Bs F w0 w' ga A gb B ∧ Keep F w w' := by
  obtain ⟨⟨V, vl, U, ul, h1, h2, h3, h4, h5⟩, lt, lo, ia, sa, ib, sb, hb⟩ := h
  subst e1
  exact (would_any h1 ia (T.below hb).1 line).mono fun e w' hp => Bs.post h1 h2 h3 h4 h5 lt lo ia sa ib sb hb hp
theorem bs_undo (T : Tabs w0) (h : Bs F w0 w ga A gb B) {E : Int} {A' : Book} (e1 : A.undo = (E, A')) :
    Calls Tryz.prog 17 #[.pointer (some ⟨ga, 0, none⟩)] w fun e w' => e = .returned (.int .i64 E) ∧ Bs F w0 w' ga A' gb B ∧ Keep F w w' := by
  obtain ⟨⟨V, vl, U, ul, h1, h2, h3, h4, h5⟩, lt, lo, ia, sa, ib, sb, hb⟩ := h
  refine (undo_any h1 ia (T.below hb).1 (fun i hi => Nat.lt_of_lt_of_le T.1.lt (Nat.not_lt.1 fun hl => h3 i hi (lo i hl)))).mono fun e w' hp => ?_
  have := Bs.post h1 h2 h3 h4 h5 lt lo ia.undo sa.undo ib sb hb hp
  rw [e1] at this
  exact this
theorem bs_lines (h : Bs F w0 w ga A gb B) : Calls Tryz.prog 23 #[.pointer (some ⟨ga, 0, none⟩)] w fun e w' => ∃ P c G, e = .returned (.slice P A.lines.length c) ∧ OwnT w' (.slice P A.lines.length c) A.lines ∧ Bs G w0 w' ga A gb B ∧ (∀ g, blkOf (.slice P A.lines.length c) = some g → G g) ∧ Below w.heap.size w w' := by
  obtain ⟨V, vl, U, ul, h1, _⟩ := h.at_
  refine (lines_any h1 h.invA).mono ?_
  rintro e w' ⟨v, rfl, ⟨hN, hn⟩, hb⟩
  obtain ⟨P, c, rfl, _⟩ := ownS_form hN
  exact ⟨P, c, _, rfl, hN, h.guard hb hN hn, fun g hg => Or.inr hg, hb⟩
end
end Dr
end Go.Proofs.YtbgakdpbglpfaaaGreatDoor
