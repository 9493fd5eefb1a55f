/- One book and rows that its turns leave as they are. -/
import Derived.Test.YtbgakdpbglpfaaaGreatDoorJml
import Derived.Test.YtbgakdpbglpfaaaGreatDoorJcd
import Derived.Test.YtbgakdpbglpfaaaGreatDoorShelfB
namespace Go.Proofs.YtbgakdpbglpfaaaGreatDoor
open Go.RowKit
namespace Dr
set_option linter.unusedSimpArgs false
/-- a book behind world w0, and blocks F that no turn of it touches -/
structure Bo (F : Nat → Prop) (w0 w : World) (gb : Nat) (B : Book) : Prop where
  at_ : ∃ V vl, BookAt w V gb vl B ∧ ∀ i, BFoot V gb vl i → ¬ F i
  lt : ∀ i, F i → i < w.heap.size
  lo : ∀ i, i < w0.heap.size → F i
  inv : BInv B
  sh : LShort B
  below : Below w0.heap.size w0 w
section
variable {F : Nat → Prop} {w0 w w' : World} {gb : Nat} {B B' : Book}
theorem Bo.of (h : Bk w0 w gb B) : Bo (fun i => i < w0.heap.size) w0 w gb B := by
  obtain ⟨⟨V, vl, H, hf⟩, I, L, hb⟩ := h
  exact ⟨⟨V, vl, H, fun i hi hj => by have := hf i hi; omega⟩, fun i hi => Nat.lt_of_lt_of_le hi hb.size, fun i hi => hi, I, L, hb⟩
theorem Bo.bk (h : Bo F w0 w gb B) : Bk w0 w gb B := by
  obtain ⟨⟨V, vl, H, hf⟩, lt, lo, I, L, hb⟩ := h
  exact ⟨⟨V, vl, H, fun i hi => Nat.not_lt.1 fun hl => hf i hi (lo i hl)⟩, I, L, hb⟩
theorem Bo.callee (h : Bo F w0 w gb B) (hb : Below w.heap.size w w') : Bo F w0 w' gb B := by
  obtain ⟨⟨V, vl, H, hf⟩, lt, lo, I, L, hb0⟩ := h
  exact ⟨⟨V, vl, H.callee hb, hf⟩, fun i hi => Nat.lt_of_lt_of_le (lt i hi) hb.size, lo, I, L, hb0.trans (hb.mono hb0.size)⟩
/-- all blocks that are new are kept as well -/
theorem Bo.guard (h : Bo F w0 w gb B) (hb : Below w.heap.size w w') : Bo (fun i => F i ∨ (w.heap.size ≤ i ∧ i < w'.heap.size)) w0 w' gb B := by
  obtain ⟨⟨V, vl, H, hf⟩, lt, lo, I, L, hb0⟩ := h
  refine ⟨⟨V, vl, H.callee hb, fun i hi hj => ?_⟩, fun i hi => ?_, fun i hi => Or.inl (lo i hi), I, L, hb0.trans (hb.mono hb0.size)⟩
  · rcases hj with hj | hj
    · exact hf i hi hj
    · exact absurd (H.lt hi) (Nat.not_lt.2 hj.1)
  · rcases hi with hi | hi
    · exact Nat.lt_of_lt_of_le (lt i hi) hb.size
    · exact hi.2
/-- a book, and rows of numbers that stay -/
structure Bn (w0 w : World) (gb : Nat) (B : Book) (ns : List (Value × List Nat)) : Prop where
  s : ∃ F, Bo F w0 w gb B ∧ ∀ p ∈ ns, ∀ g, blkOf p.1 = some g → F g
  n : ∀ p ∈ ns, OwnN w p.1 p.2
theorem Bn.of (h : Bk w0 w gb B) : Bn w0 w gb B [] := ⟨⟨_, Bo.of h, fun p hp => by cases hp⟩, fun p hp => by cases hp⟩
theorem Bn.bk {ns : List (Value × List Nat)} (h : Bn w0 w gb B ns) : Bk w0 w gb B := by
  obtain ⟨⟨F, h, _⟩, _⟩ := h
  exact h.bk
theorem Bn.callee {ns : List (Value × List Nat)} (h : Bn w0 w gb B ns) (hb : Below w.heap.size w w') : Bn w0 w' gb B ns := by
  obtain ⟨⟨F, h, hf⟩, hn⟩ := h
  exact ⟨⟨F, h.callee hb, hf⟩, fun p hp => OwnI.callee (hn p hp) hb⟩
theorem Bn.add {ns : List (Value × List Nat)} (h : Bn w0 w gb B ns) (hb : Below w.heap.size w w') {v : Value} {xs : List Nat} (hv : OwnN w' v xs) (hg : ∀ g, blkOf v = some g → w.heap.size ≤ g) : Bn w0 w' gb B ((v, xs) :: ns) := by
  obtain ⟨⟨F, h, hf⟩, hn⟩ := h
  refine ⟨⟨_, h.guard hb, fun p hp g e => ?_⟩, fun p hp => ?_⟩
  · rcases List.mem_cons.1 hp with rfl | hp
    · exact Or.inr ⟨hg g e, ownI_lt hv e⟩
    · exact Or.inl (hf p hp g e)
  · rcases List.mem_cons.1 hp with rfl | hp
    · exact hv
    · exact OwnI.callee (hn p hp) hb
theorem bn_post {ns : List (Value × List Nat)} {V : Vals} {vl : Value} (_ : BookAt w V gb vl B) (h3 : ∀ i, BFoot V gb vl i → ¬ F i) (lt : ∀ i, F i → i < w.heap.size) (lo : ∀ i, i < w0.heap.size → F i) (ia : BInv B') (sa : LShort B') (hb : Below w0.heap.size w0 w)
    (hf : ∀ p ∈ ns, ∀ g, blkOf p.1 = some g → F g) (hn : ∀ p ∈ ns, OwnN w p.1 p.2) {R : Int} {e : Ending} (hp : BookPost V gb vl w B' R e w') : e = .returned (.int .i64 R) ∧ Bn w0 w' gb B' ns := by
  obtain ⟨rfl, V', vl', H', K⟩ := hp
  refine ⟨rfl, ⟨F, ⟨⟨V', vl', H', fun i hi hj => ?_⟩, fun i hi => Nat.lt_of_lt_of_le (lt i hi) K.size, lo, ia, sa, ?_⟩, hf⟩, fun p hp => ?_⟩
  · rcases K.foot i hi with h | h
    · exact h3 i h hj
    · exact absurd (lt i hj) (Nat.not_lt.2 h)
  · exact ⟨K.os.trans hb.os, K.tape.trans hb.tape, K.output.trans hb.output, Nat.le_trans hb.size K.size, fun i hi => (K.block i (lt i (lo i hi)) fun hf => h3 i hf (lo i hi)).trans (hb.block i hi)⟩
  · exact OwnI.same (hn p hp) fun j hj => K.block j (ownI_lt (hn p hp) hj) fun hq => h3 j hq (hf p hp j hj)
theorem bn_do (T : Tabs w0) {ns : List (Value × List Nat)} (h : Bn w0 w gb B ns) (line : ByteArray) {E : Int} {B' : Book} (e1 : B.would line = E) (e2 : B.done line = B') :
    Calls Tryz.prog 20 #[.pointer (some ⟨gb, 0, none⟩), .string line] w fun e w' => e = .returned (.int .i64 E) ∧ Bn w0 w' gb B' ns := by
  obtain ⟨⟨F, ⟨⟨V, vl, H, h3⟩, lt, lo, I, L, hb⟩, hf⟩, hn⟩ := h
  subst e1 e2
  exact (do_any H I (T.below hb).1 line).mono fun e w' hp => bn_post H h3 lt lo (I.done line) (L.done line) hb hf hn hp
theorem bn_would (T : Tabs w0) {ns : List (Value × List Nat)} (h : Bn w0 w gb B ns) (line : ByteArray) {E : Int} (e1 : B.would line = E) :
    Calls Tryz.prog 19 #[.pointer (some ⟨gb, 0, none⟩), .string line] w fun e w' => e = .returned (.int .i64 E) ∧ Bn w0 w' gb B ns := by
  obtain ⟨⟨F, ⟨⟨V, vl, H, h3⟩, lt, lo, I, L, hb⟩, hf⟩, hn⟩ := h
  subst e1
  exact (would_any H I (T.below hb).1 line).mono fun e w' hp => bn_post H h3 lt lo I L hb hf hn hp
theorem bn_could {ns : List (Value × List Nat)} (h : Bn w0 w gb B ns) (d : ByteArray) {xs : List Nat} {E : Int} (h1 : B.ask d [] couldC = (xs, E)) : Calls Tryz.prog 31 #[.pointer (some ⟨gb, 0, none⟩), .string d] w fun e w' => ∃ v, e = .returned (.tuple #[v, .int .i64 E]) ∧ Bn w0 w' gb B ((v, xs) :: ns) := by
  obtain ⟨V, vl, H, _⟩ := h.bk.at_
  refine (could_any H h.bk.inv d).mono ?_
  rintro e w' ⟨v, rfl, ⟨hN, hn⟩, hb⟩
  rw [h1] at hN ⊢
  exact ⟨v, rfl, h.add hb hN hn⟩
theorem bn_sizes {ns : List (Value × List Nat)} (h : Bn w0 w gb B ns) (d : ByteArray) {xs : List Nat} {E : Int} (h1 : B.ask d [] (·.sizes) = (xs, E)) : Calls Tryz.prog 28 #[.pointer (some ⟨gb, 0, none⟩), .string d] w fun e w' => ∃ v, e = .returned (.tuple #[v, .int .i64 E]) ∧ Bn w0 w' gb B ((v, xs) :: ns) := by
  obtain ⟨V, vl, H, _⟩ := h.bk.at_
  refine (sizes_any H h.bk.inv d).mono ?_
  rintro e w' ⟨v, rfl, ⟨hN, hn⟩, hb⟩
  rw [h1] at hN ⊢
  exact ⟨v, rfl, h.add hb hN hn⟩
/-- is a number in a row -/
theorem contains_any {v : Value} {xs : List Nat} (h : OwnN w v xs) (x : Nat) : Calls Tryz.prog 58 #[v, .int .i64 (x : Int)] w fun e w' => e = .returned (.bool (xs.contains x)) ∧ w' = w := by
  obtain ⟨P, c, rfl, h1, h2, hr, hA⟩ := ownN_form h
  by_cases h0 : xs.length = 0
  · obtain rfl : xs = [] := List.eq_nil_of_length_eq_zero h0
    exact Tryz.slices_Contains_int_empty P c (x : Int) w
  · obtain ⟨g, rfl⟩ := hA (by omega)
    have e : (natI xs).contains (x : Int) = xs.contains x := by
      rw [Bool.eq_iff_iff]
      simp only [natI, List.contains_iff_mem, List.mem_map]
      constructor
      · rintro ⟨a, ha, e⟩
        have : a = x := by omega
        rw [← this]
        exact ha
      · exact fun h => ⟨x, h, rfl⟩
    rw [← e]
    have hc := Tryz.slices_Contains_int g 0 xs.length c (natI xs) (x : Int) w (by rw [natI_length]; exact Nat.le_refl _) (by unfold maxLen at *; omega) (fun j hj => by
      obtain ⟨ad, y, ha, _, hcell, hy⟩ := hr.at_ (k := j) (by rw [natI_length] at hj; exact hj)
      injection ha with ha
      subst ha
      have : (⟨g, 0 + j, none⟩ : Addr) = (⟨g, 0, none⟩ : Addr).add j := by unfold Addr.add; split <;> simp_all
      rw [this, hcell, List.getD_eq_getElem?_getD, hy.out]
      rfl)
    rw [List.take_of_length_le (by rw [natI_length]; exact Nat.le_refl _)] at hc
    exact hc
end
end Dr
end Go.Proofs.YtbgakdpbglpfaaaGreatDoor
