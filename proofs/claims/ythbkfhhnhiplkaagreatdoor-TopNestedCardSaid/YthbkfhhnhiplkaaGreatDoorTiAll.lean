/- The texts TiBase, TiIter, TiStart, TiLacks, TiBallot, TiCount, TiAt, TiNumber, TiTurns, TiPairK, TiPairs in one. -/
import Derived.Test.YthbkfhhnhiplkaaGreatDoorKit
import Derived.Test.YthbkfhhnhiplkaaGreatDoorChecked
import Derived.Test.YthbkfhhnhiplkaaGreatDoorPush
import Derived.Test.YthbkfhhnhiplkaaGreatDoorShelf
import Derived.Lib.OthersKept
import Derived.Laws.Runes
import Derived.Laws.RangeAny
import Derived.Deep.RegionHeld3
import Derived.BigQuiet
import Derived.Laws.MakeOwn
import Derived.ArgAppend
/- Words of bytes; orders of customers: errors, steps, the first one for whom change lacks. -/
namespace Go.Proofs.YthbkfhhnhiplkaaGreatDoor.Ti
open Go.RowKit
abbrev Word := List UInt8
def bts (s : ByteArray) : Word := s.data.toList
theorem bts_len (s : ByteArray) : (bts s).length = s.size := Array.length_toList
theorem bts_inj {s t : ByteArray} (h : bts s = bts t) : s = t := by
  obtain ⟨a⟩ := s
  obtain ⟨b⟩ := t
  exact congrArg ByteArray.mk (Array.toList_inj.1 h)
theorem bts_mk (l : Word) : bts ⟨l.toArray⟩ = l := by simp [bts]
theorem mk_bts (s : ByteArray) : (⟨(bts s).toArray⟩ : ByteArray) = s := bts_inj (bts_mk _)
theorem bts_extract (s : ByteArray) (a b : Nat) : bts (s.extract a b) = ((bts s).take b).drop a := by
  simp [bts, List.drop_take]
theorem bts_append (s t : ByteArray) : bts (s ++ t) = bts s ++ bts t := by simp [bts]
theorem bts_at (s : ByteArray) (k : Nat) (h : k < s.size) : (bts s)[k]? = some s[k] := by
  have h1 : k < s.data.size := h
  show s.data.toList[k]? = some (s.data[k])
  rw [Array.getElem?_toList, Array.getElem?_eq_getElem h1]
/-- the error of an order -/
def okT (l : Word) : Bool := l.all fun b => b == 99 || b == 110
def chkT (l : Word) : Int := if 16 < l.length then 3 else if okT l then 0 else 10
def opT (l : Word) (b : Int) : Int := if chkT l ≠ 0 then chkT l else if 0 ≤ b ∧ b ≤ 20 then 0 else 1
/-- coins after a customer -/
def stp (b : Int) (c : UInt8) : Int := if c = 99 then b + 1 else b - 1
def stepsT (b : Int) : Word → List Int
  | [] => []
  | c :: l => stp b c :: stepsT (stp b c) l
def endT (b : Int) (l : Word) : Int := l.foldl stp b
theorem steps_len (l : Word) : ∀ b, (stepsT b l).length = l.length := by
  induction l with
  | nil => intro b; rfl
  | cons c l ih => intro b; simp [stepsT, ih]
theorem steps_snoc (l : Word) (c : UInt8) : ∀ b, stepsT b (l ++ [c]) = stepsT b l ++ [stp (endT b l) c] := by
  induction l with
  | nil => intro b; rfl
  | cons d l ih => intro b; simp only [List.cons_append, stepsT, ih]; rfl
theorem end_snoc (l : Word) (c : UInt8) (b : Int) : endT b (l ++ [c]) = stp (endT b l) c := by simp [endT]
theorem end_bound (l : Word) : ∀ b, b - l.length ≤ endT b l ∧ endT b l ≤ b + l.length := by
  induction l with
  | nil => intro b; simp [endT]
  | cons c l ih =>
    intro b
    have := ih (stp b c)
    have e : endT b (c :: l) = endT (stp b c) l := rfl
    rw [e]
    have h : b - 1 ≤ stp b c ∧ stp b c ≤ b + 1 := by unfold stp; split <;> omega
    simp only [List.length_cons]
    omega
theorem steps_get (l : Word) : ∀ (b : Int) (i : Nat), i < l.length → (stepsT b l)[i]? = some (endT b (l.take (i + 1))) := by
  induction l with
  | nil => intro b i h; simp at h
  | cons c l ih =>
    intro b i h
    cases i with
    | zero => rfl
    | succ i =>
      rw [stepsT, List.getElem?_cons_succ, ih _ i (by simpa using h)]
      rfl
theorem steps_bound {l : Word} {b x : Int} (h : x ∈ stepsT b l) : b - l.length ≤ x ∧ x ≤ b + l.length := by
  obtain ⟨i, hi, he⟩ := List.getElem_of_mem h
  have hi' : i < l.length := by rwa [steps_len] at hi
  have h1 := steps_get l b i hi'
  rw [List.getElem?_eq_getElem hi, he] at h1
  injection h1 with h1
  have := end_bound (l.take (i + 1)) b
  rw [← h1, List.length_take] at this
  omega
/-- the first customer for whom change lacks, or -1 -/
def negI (xs : List Int) (i : Nat) : Int := match xs with
  | [] => -1
  | x :: r => if x < 0 then i else negI r (i + 1)
def lacksT (l : Word) (b : Int) : Int := negI (stepsT b l) 0
theorem negI_bound (xs : List Int) : ∀ i, negI xs i = -1 ∨ ((i : Int) ≤ negI xs i ∧ negI xs i < i + xs.length) := by
  induction xs with
  | nil => intro i; left; rfl
  | cons x r ih =>
    intro i
    rw [negI]
    split
    · right; simp only [List.length_cons]; omega
    · rcases ih (i + 1) with h | h
      · left; exact h
      · right; simp only [List.length_cons]; omega
theorem okT_at {l : Word} (h : okT l = true) {c : UInt8} (hc : c ∈ l) : c = 99 ∨ c = 110 := by
  have := (List.all_eq_true.1 h) c hc
  simpa using this
theorem chkT_zero {l : Word} (h : chkT l = 0) : l.length ≤ 16 ∧ okT l = true := by
  unfold chkT at h
  split at h
  · omega
  · split at h
    · exact ⟨by omega, by assumption⟩
    · omega
theorem opT_zero {l : Word} {b : Int} (h : opT l b = 0) : chkT l = 0 ∧ 0 ≤ b ∧ b ≤ 20 := by
  unfold opT at h
  split at h
  · contradiction
  · rename_i h0
    split at h
    · rename_i h1; exact ⟨by simpa using h0, h1⟩
    · omega
end Go.Proofs.YthbkfhhnhiplkaaGreatDoor.Ti
/- A range over a string of ASCII letters; an own list that is returned. -/
namespace Go.Proofs.YthbkfhhnhiplkaaGreatDoor.Ti
open Go.RowKit
theorem iter_next {wr : World} {k pos : Nat} {s : ByteArray} {y : UInt8} (hit : wr.heap[k]? = some (.stringIter s pos)) (hp : pos < s.size) (hy : (bts s)[pos]? = some y) (h128 : y.toNat < 128) :
    ∃ wn : World, (∀ ty, (Instr.next (.pointer (some ⟨k, 0, none⟩)) true ty).run Tryz.prog wr = .ok (.tuple #[.bool true, .int .i64 pos, .int .i32 y.toNat]) wn) ∧ wn.heap[k]? = some (.stringIter s (pos + 1)) ∧ wr.grownBy wn (some k) := by
  have hyb : s[pos]'hp = y := by
    have := bts_at s pos hp
    rw [hy] at this
    injection this with this
    exact this.symm
  refine ⟨wr.iterAt k s (pos + 1), fun ty => ?_, Lib.iterAt_heap wr k s pos (pos + 1) hit, rfl, rfl, rfl, ?_, fun g _ hne => Lib.iterAt_other wr k g s (pos + 1) (fun e => hne (by rw [e]))⟩
  · rw [Lib.run_next_ascii_at wr k s pos ty hit hp (by rw [hyb]; omega), hyb]
  · have := Lib.iterAt_size wr k s (pos + 1)
    omega
theorem iter_cn {wr : World} {k pos : Nat} {s : ByteArray} (hok : okT (bts s) = true) (hit : wr.heap[k]? = some (.stringIter s pos)) (hp : pos < s.size) :
    ∃ y wn, (bts s)[pos]? = some y ∧ wn.heap[k]? = some (.stringIter s (pos + 1)) ∧ wr.grownBy wn (some k) ∧
      ((y = 99 ∧ ∀ ty, (Instr.next (.pointer (some ⟨k, 0, none⟩)) true ty).run Tryz.prog wr = .ok (.tuple #[.bool true, .int .i64 pos, .int .i32 99]) wn) ∨
       (y = 110 ∧ ∀ ty, (Instr.next (.pointer (some ⟨k, 0, none⟩)) true ty).run Tryz.prog wr = .ok (.tuple #[.bool true, .int .i64 pos, .int .i32 110]) wn)) := by
  obtain ⟨y, hy⟩ : ∃ y, (bts s)[pos]? = some y := ⟨_, bts_at s pos hp⟩
  have hyy := okT_at hok (List.mem_of_getElem? hy)
  obtain ⟨wn, h1, h2, h3⟩ := iter_next hit hp hy (by rcases hyy with rfl | rfl <;> decide)
  refine ⟨y, wn, hy, h2, h3, ?_⟩
  rcases hyy with rfl | rfl
  · exact Or.inl ⟨rfl, h1⟩
  · exact Or.inr ⟨rfl, h1⟩
theorem iter_end {wr : World} {k pos : Nat} {s : ByteArray} (hit : wr.heap[k]? = some (.stringIter s pos)) (hp : ¬ pos < s.size) : ∀ ty, (Instr.next (.pointer (some ⟨k, 0, none⟩)) true ty).run Tryz.prog wr = .ok (.tuple #[.bool false]) wr :=
  fun ty => Lib.run_next_end_at wr k s pos ty hit hp
theorem heap_lt {w : World} {k : Nat} {o : Obj} (h : w.heap[k]? = some o) : k < w.heap.size := by
  rcases Nat.lt_or_ge k w.heap.size with h1 | h1
  · exact h1
  · rw [Array.getElem?_eq_none h1] at h; cases h
/-- an iterator stays where a row grows -/
theorem iter_stay {w w' : World} {k : Nat} {o : Obj} {row : Option Nat} (h : w.heap[k]? = some o) (hg : w.grownBy w' row) (hne : some k ≠ row) : w'.heap[k]? = some o := (hg.block k (heap_lt h) hne).trans h
theorem _root_.Go.Proofs.YthbkfhhnhiplkaaGreatDoor.OwnI.ne_iter {w : World} {base k pos : Nat} {v : Value} {xs : List Int} {s : ByteArray} (h : OwnI w base v xs) (hit : w.heap[k]? = some (.stringIter s pos)) : v.ownBlock ≠ some k := by
  rcases h.2 with ⟨rfl, _⟩ | ⟨g, cap, cur, rfl, _, hg, _⟩
  · simp [Value.ownBlock]
  · intro e
    obtain rfl : g = k := by simpa [Value.ownBlock] using e
    rw [hit] at hg
    cases hg
theorem make_own (n : Nat) (hn : n ≤ 1000000) (w : World) : ∃ w', (Instr.makeSlice 28 (.int .i64 0) (.int .i64 (n : Int))).run Tryz.prog w = .ok (.slice (some ⟨w.heap.size, 0, none⟩) 0 n) w' ∧ OwnI w' w.heap.size (.slice (some ⟨w.heap.size, 0, none⟩) 0 n) [] ∧ w.grownBy w' none := by
  obtain ⟨i0, hi0, hz0, hz1, hz2⟩ := info_parts infoInt
  exact run_makeSlice_owned w w.heap.size 28 3 i0 (.int .i64 0) 1 Tryz.underlying28 hi0 hz0 hz1 .i64 .i64 n (by omega) (by rw [hz2]; omega) (by simp only [maxLen]; omega) (Nat.le_refl _)
/-- an own list of ints is returned -/
def RetI (xs : List Int) (w : World) (e : Ending) (w' : World) : Prop := ∃ v, e = .returned v ∧ OwnI w' w.heap.size v xs ∧ Below w.heap.size w w'
/-- an own list of ints, and an error -/
def RetIE (xs : List Int) (err : Int) (w : World) (e : Ending) (w' : World) : Prop := ∃ v, e = .returned (.tuple #[v, .int .i64 err]) ∧ OwnI w' w.heap.size v xs ∧ Below w.heap.size w w'
theorem _root_.Go.Proofs.YthbkfhhnhiplkaaGreatDoor.OwnI.rebase {w : World} {b b' : Nat} {v : Value} {xs : List Int} (h : OwnI w b v xs) (hb : b' ≤ b) : OwnI w b' v xs := by
  refine ⟨h.1, ?_⟩
  rcases h.2 with h0 | ⟨g, cap, cur, rfl, hg, r⟩
  · exact .inl h0
  · exact .inr ⟨g, cap, cur, rfl, Nat.le_trans hb hg, r⟩
theorem _root_.Go.Proofs.YthbkfhhnhiplkaaGreatDoor.OwnI.full {w : World} {base : Nat} {v : Value} {xs : List Int} (h : OwnI w base v xs) (hne : 0 < xs.length) : ∃ g c, v = .slice (some ⟨g, 0, none⟩) xs.length c ∧ xs.length ≤ c ∧ base ≤ g ∧ g < w.heap.size ∧ ∀ j, j < xs.length → w.cell? ⟨g, j, none⟩ = some (.int .i64 (xs.getD j 0)) := by
  have hr := h.reads
  rcases h.2 with ⟨_, h0⟩ | ⟨g, cap, cur, rfl, hb, hg, hc, _⟩
  · omega
  · obtain ⟨A, c, he, hr⟩ := hr
    obtain ⟨rfl, rfl⟩ : some ⟨g, 0, none⟩ = A ∧ cap = c := by injection he with h1 _ h2; exact ⟨h1, h2⟩
    refine ⟨g, cap, rfl, hc, hb, h.lt rfl, fun j hj => ?_⟩
    obtain ⟨ad, u, hA, _, hu, hcell⟩ := Reads.at_ hr hj
    obtain rfl : (⟨g, 0, none⟩ : Addr) = ad := by injection hA
    rw [ints_get xs j hj] at hu
    injection hu with hu
    rw [hu, ← hcell]
    congr 1
    unfold Addr.add
    split <;> simp_all
theorem below_iter {B : Nat} {w : World} (s : ByteArray) (hB : B ≤ w.heap.size) : Below B w (w.alloc (.stringIter s 0)) := (Below.refl _ _).alloc hB _
end Go.Proofs.YthbkfhhnhiplkaaGreatDoor.Ti
/- Check, opened, between; steps; the first customer for whom change lacks. -/
namespace Go.Proofs.YthbkfhhnhiplkaaGreatDoor.Ti
open Go.RowKit
theorem drop_first {p : UInt8 → Bool} : ∀ {l : Word} {a : UInt8} {r : Word}, l.dropWhile p = a :: r → p a = false := by
  intro l
  induction l with
  | nil => intro a r h; cases h
  | cons b l ih =>
    intro a r h
    rw [List.dropWhile_cons] at h
    split at h
    · exact ih h
    · rename_i hb
      injection h with h1 h2
      rw [← h1]; simpa using hb
theorem trim_ok (l : Word) : (Lib.trimS l [99, 110]).isEmpty = okT l := by
  have hall : ∀ m : Word, (m.dropWhile fun b => List.contains [99, 110] b).isEmpty = m.all fun b => List.contains [99, 110] b := by
    intro m
    induction m with
    | nil => rfl
    | cons b m ih =>
      rw [List.dropWhile_cons, List.all_cons]
      by_cases hb : List.contains [99, 110] b = true
      · rw [if_pos hb, ih, hb]; rfl
      · rw [if_neg hb]
        simp only [Bool.not_eq_true] at hb
        rw [hb]; rfl
  have hok : okT l = l.all fun b => List.contains [99, 110] b := by
    unfold okT
    congr 1
    funext b
    rw [Bool.eq_iff_iff]
    simp
  unfold Lib.trimS Lib.trimLeftS Lib.trimRightS
  rw [hall, hok]
  cases hd : l.reverse.dropWhile fun b => List.contains [99, 110] b with
  | nil =>
    have := hall l.reverse
    rw [hd, List.all_reverse] at this
    rw [← this]; rfl
  | cons a r =>
    have ha := drop_first hd
    have := hall l.reverse
    rw [hd, List.all_reverse] at this
    rw [← this, List.all_reverse, List.all_cons, ha]
    rfl
set_option maxRecDepth 100000 in
set_option maxHeartbeats 4000000 in
theorem Check_any (s : ByteArray) (w : World) : Calls Tryz.prog 32 #[.string s] w fun e w' => e = .returned (.int .i64 (chkT (bts s))) ∧ Below w.heap.size w w' := by
  by_cases h16 : 16 < s.size
  · have hR := Lib.hid (show chkT (bts s) = 3 by unfold chkT; rw [bts_len, if_pos h16])
    have hi : (16 : Int) < s.size := by omega
    clear h16
    go_enter Tryz.func32, Tryz.ntmps32
    go_wp2_with (fail)
    go_ret
    exact ⟨by rw [hR.out]; rfl, Below.refl _ _⟩
  · have hi : ¬ (16 : Int) < s.size := by omega
    have hR := Lib.hid (show chkT (bts s) = if okT (bts s) then 0 else 10 by unfold chkT; rw [bts_len, if_neg h16])
    have htr := Lib.hid (fun w' => Tryz.strings_Trim s ⟨#[99, 110]⟩ w' (by omega) (by decide) (ascii_of_all (by decide)))
    obtain ⟨t, ht⟩ : ∃ t : ByteArray, (⟨(Lib.trimS s.data.toList (⟨#[99, 110]⟩ : ByteArray).data.toList).toArray⟩ : ByteArray) = t := ⟨_, rfl⟩
    have hte : t.toList.isEmpty = okT (bts s) := by
      rw [← ht, ByteArray.toList_eq, ← trim_ok]
      rfl
    rw [ht] at htr
    clear ht h16
    cases hq : okT (bts s) with
    | true =>
      rw [hq] at hte hR
      go_enter Tryz.func32, Tryz.ntmps32
      go_wp2_with (first
        | (go_at_call 55; (with_reducible refine (htr.out _).mono ?_); rintro e w1 ⟨rfl, hb1⟩))
      go_ret
      exact ⟨by rw [hR.out]; rfl, hb1⟩
    | false =>
      rw [hq] at hte hR
      go_enter Tryz.func32, Tryz.ntmps32
      go_wp2_with (first
        | (go_at_call 55; (with_reducible refine (htr.out _).mono ?_); rintro e w1 ⟨rfl, hb1⟩))
      go_ret
      exact ⟨by rw [hR.out]; rfl, hb1⟩
set_option maxRecDepth 100000 in
set_option maxHeartbeats 1000000 in
theorem between_any (a b c : Int) (w : World) : Calls Tryz.prog 25 #[.int .i64 a, .int .i64 b, .int .i64 c] w fun e w' => e = .returned (.bool (decide (a ≤ b ∧ b ≤ c))) ∧ w' = w := by
  by_cases h1 : a ≤ b
  · by_cases h2 : b ≤ c
    · have hR := Lib.hid (show decide (a ≤ b ∧ b ≤ c) = true by simp [h1, h2])
      go_enter Tryz.func25, Tryz.ntmps25
      go_wp2_with (fail)
      go_ret
      exact ⟨by first | rfl | (rw [hR.out]; rfl), rfl⟩
    · have hR := Lib.hid (show decide (a ≤ b ∧ b ≤ c) = false by simp [h2])
      have h3 : decide (b ≤ c) = false := by simp [h2]
      go_enter Tryz.func25, Tryz.ntmps25
      go_wp2_with (fail)
      go_ret
      exact ⟨by first | rfl | (rw [hR.out]; rfl), rfl⟩
  · have hR := Lib.hid (show decide (a ≤ b ∧ b ≤ c) = false by simp [h1])
    have h3 : decide (a ≤ b) = false := by simp [h1]
    go_enter Tryz.func25, Tryz.ntmps25
    go_wp2_with (fail)
    go_ret
    exact ⟨by first | rfl | (rw [hR.out]; rfl), rfl⟩
set_option maxRecDepth 100000 in
set_option maxHeartbeats 1000000 in
theorem opened_any (s : ByteArray) (b : Int) (w : World) : Calls Tryz.prog 29 #[.string s, .int .i64 b] w fun e w' => e = .returned (.int .i64 (opT (bts s) b)) ∧ Below w.heap.size w w' := by
  obtain ⟨k, hk⟩ : ∃ k, chkT (bts s) = k := ⟨_, rfl⟩
  have hkH := Lib.hid hk
  by_cases h0 : k = 0
  · subst h0
    obtain ⟨q, hq⟩ : ∃ q, decide ((0 : Int) ≤ b ∧ b ≤ 20) = q := ⟨_, rfl⟩
    have hqH := Lib.hid hq
    have hR := Lib.hid (show opT (bts s) b = if q then 0 else 1 by unfold opT; rw [if_neg (by simp [hk]), ← hq]; simp only [decide_eq_true_eq])
    clear hk hq
    cases q with
    | true =>
      go_enter Tryz.func29, Tryz.ntmps29
      go_wp2_with (first
        | (go_at_call 32; (with_reducible refine (Check_any _ _).mono ?_); rintro e w1 ⟨rfl, hb1⟩; rw [hkH.out])
        | (go_at_call 25; (with_reducible refine (between_any _ _ _ _).mono ?_); rintro e w2 ⟨rfl, rfl⟩; rw [hqH.out]))
      go_ret
      exact ⟨by rw [hR.out]; rfl, hb1⟩
    | false =>
      go_enter Tryz.func29, Tryz.ntmps29
      go_wp2_with (first
        | (go_at_call 32; (with_reducible refine (Check_any _ _).mono ?_); rintro e w1 ⟨rfl, hb1⟩; rw [hkH.out])
        | (go_at_call 25; (with_reducible refine (between_any _ _ _ _).mono ?_); rintro e w2 ⟨rfl, rfl⟩; rw [hqH.out]))
      go_ret
      exact ⟨by rw [hR.out]; rfl, hb1⟩
  · have hR := Lib.hid (show opT (bts s) b = k by unfold opT; rw [hk, if_pos h0])
    have hk0 : (k == 0) = false := by simp [h0]
    clear hk
    go_enter Tryz.func29, Tryz.ntmps29
    go_wp2_with (first
      | (go_at_call 32; (with_reducible refine (Check_any _ _).mono ?_); rintro e w1 ⟨rfl, hb1⟩; rw [hkH.out]))
    go_ret
    exact ⟨by rw [hR.out]; rfl, hb1⟩
set_option maxRecDepth 100000 in
set_option maxHeartbeats 4000000 in
theorem steps_any (s : ByteArray) (b : Int) (hs : s.size ≤ 1000) (hok : okT (bts s) = true) (hb : -1000000 ≤ b ∧ b ≤ 1000000) (w : World) : Calls Tryz.prog 31 #[.string s, .int .i64 b] w (RetI (stepsT b (bts s)) w) := by
  have hokH := Lib.hid hok
  obtain ⟨wm, hmk, hom, hgm⟩ := make_own s.size (by omega) w
  have hbm := below_none (Below.refl w.heap.size w) hgm (Nat.le_refl _)
  clear hok hgm
  go_enter Tryz.func31, Tryz.ntmps31
  go_wp2_with (fail)
  clear hmk
  go_loopw [1, 5] (fun v1 o wr => ∃ pos : Nat, pos ≤ s.size ∧ v1 = .int .i64 (endT b ((bts s).take pos)) ∧ OwnI wr w.heap.size o (stepsT b ((bts s).take pos)) ∧ wr.heap[wm.heap.size]? = some (.stringIter s pos) ∧ Below w.heap.size w wr) (fun _ _ wr => s.size - wr.iterPos wm.heap.size)
  case atStart => exact ⟨0, by omega, rfl, hom.none_ (World.grownBy_alloc wm _ none), by first | exact World.iter_heap wm s 0 | simp, hbm.alloc hbm.size _⟩
  case round =>
    obtain ⟨pos, hpos, rfl, ho, hit, hbe⟩ := hrel
    by_cases hp : pos < s.size
    · obtain ⟨y, wn, hy, hitn, hgn, hyy⟩ := iter_cn hokH.out hit hp
      have hben := below_some hbe hgn hbe.size (by have := hbm.size; omega)
      have hon := ho.some_ hgn (ho.ne_iter hit)
      have hbd := end_bound ((bts s).take pos) b
      have hpl : (stepsT b ((bts s).take pos)).length ≤ 1000000000 := by rw [steps_len, List.length_take, bts_len]; omega
      rw [List.length_take, bts_len] at hbd
      rcases hyy with ⟨rfl, hnx⟩ | ⟨rfl, hnx⟩
      · have he : endT b ((bts s).take (pos + 1)) = endT b ((bts s).take pos) + 1 := by rw [List.take_add_one, hy, Option.toList_some, end_snoc]; rfl
        have heH := Lib.hid he
        have hst := Lib.hid (show stepsT b ((bts s).take (pos + 1)) = stepsT b ((bts s).take pos) ++ [endT b ((bts s).take pos) + 1] by rw [List.take_add_one, hy, Option.toList_some, steps_snoc]; rfl)
        obtain ⟨E, hE⟩ : ∃ E, endT b ((bts s).take pos) = E := ⟨_, rfl⟩
        obtain ⟨P, hP⟩ : ∃ P, stepsT b ((bts s).take pos) = P := ⟨_, rfl⟩
        rw [hE] at hbd heH hst ⊢
        rw [hP] at hpl hst hon
        clear hE hP hy he
        obtain ⟨F, hF⟩ : ∃ F, E + 1 = F := ⟨_, rfl⟩
        rw [hF] at hst heH
        go_wp2_with (first
          | (at_builtin
             refine wpList_push rfl _ _ rfl rfl (hon.none_ (World.grownBy_alloc wn _ none)) wn.heap.size 1 F rfl (Blk.new wn _ _) hpl (by have := hben.size; show _ ≤ (wn.heap.push _).size; simp; omega) ?_
             intro g6 cap6 w6 ho6 hgr6 _ _
             have hb6 := (hben.alloc hben.size (.cells #[.int .i64 F] 3)).grown hgr6 (by have := hben.size; show _ ≤ (wn.heap.push _).size; simp; omega) (fun g hg => hon.ge hg)
             have hit6 := iter_stay (iter_stay hitn (World.grownBy_alloc wn (.cells #[.int .i64 F] 3) none) (by simp)) hgr6 (fun e => hon.ne_iter hitn e.symm)))
        go_roundw
        case rel => exact ⟨pos + 1, by omega, by rw [heH.out], by rw [hst.out]; simpa [OwnI] using ho6, hit6, hb6⟩
        case measure => simp only [World.iterPos, hit, hit6]; omega
      · have he : endT b ((bts s).take (pos + 1)) = endT b ((bts s).take pos) - 1 := by rw [List.take_add_one, hy, Option.toList_some, end_snoc]; rfl
        have heH := Lib.hid he
        have hst := Lib.hid (show stepsT b ((bts s).take (pos + 1)) = stepsT b ((bts s).take pos) ++ [endT b ((bts s).take pos) - 1] by rw [List.take_add_one, hy, Option.toList_some, steps_snoc]; rfl)
        obtain ⟨E, hE⟩ : ∃ E, endT b ((bts s).take pos) = E := ⟨_, rfl⟩
        obtain ⟨P, hP⟩ : ∃ P, stepsT b ((bts s).take pos) = P := ⟨_, rfl⟩
        rw [hE] at hbd heH hst ⊢
        rw [hP] at hpl hst hon
        clear hE hP hy he
        obtain ⟨F, hF⟩ : ∃ F, E - 1 = F := ⟨_, rfl⟩
        rw [hF] at hst heH
        go_wp2_with (first
          | (at_builtin
             refine wpList_push rfl _ _ rfl rfl (hon.none_ (World.grownBy_alloc wn _ none)) wn.heap.size 1 F rfl (Blk.new wn _ _) hpl (by have := hben.size; show _ ≤ (wn.heap.push _).size; simp; omega) ?_
             intro g6 cap6 w6 ho6 hgr6 _ _
             have hb6 := (hben.alloc hben.size (.cells #[.int .i64 F] 3)).grown hgr6 (by have := hben.size; show _ ≤ (wn.heap.push _).size; simp; omega) (fun g hg => hon.ge hg)
             have hit6 := iter_stay (iter_stay hitn (World.grownBy_alloc wn (.cells #[.int .i64 F] 3) none) (by simp)) hgr6 (fun e => hon.ne_iter hitn e.symm)))
        go_roundw
        case rel => exact ⟨pos + 1, by omega, by rw [heH.out], by rw [hst.out]; simpa [OwnI] using ho6, hit6, hb6⟩
        case measure => simp only [World.iterPos, hit, hit6]; omega
    · have hnx := iter_end hit hp
      rw [List.take_of_length_le (by rw [bts_len]; omega)] at ho
      go_wp2_with (fail)
      go_ret
      exact ⟨_, rfl, ho, hbe⟩
end Go.Proofs.YthbkfhhnhiplkaaGreatDoor.Ti
/- The first customer for whom change lacks; Coins, Lacks, Needs. -/
namespace Go.Proofs.YthbkfhhnhiplkaaGreatDoor.Ti
open Go.RowKit
set_option maxRecDepth 100000 in
set_option maxHeartbeats 1000000 in
theorem neg_any (n : Int) (w : World) : Calls Tryz.prog 54 #[.int .i64 n] w fun e w' => e = .returned (.bool (decide (n < 0))) ∧ w' = w := by
  go_enter Tryz.func54, Tryz.ntmps54
  go_wp2_with (fail)
  go_ret
  exact ⟨rfl, rfl⟩
theorem negI_step {xs : List Int} {i : Nat} {x : Int} (h : xs[i]? = some x) : negI (xs.drop i) i = if x < 0 then (i : Int) else negI (xs.drop (i + 1)) (i + 1) := by
  obtain ⟨hi, rfl⟩ := List.getElem?_eq_some_iff.1 h
  rw [List.drop_eq_getElem_cons hi, negI]
set_option maxRecDepth 100000 in
set_option maxHeartbeats 4000000 in
theorem indexNeg_any (A : Option Addr) (n c : Nat) (xs : List Int) (w : World) (B : Nat) (hr : RInts w B A n xs) (hn6 : n ≤ 1000000) :
    Calls Tryz.prog 53 #[.slice A n c, .func (.func 54) #[] #[]] w fun e w' => e = .returned (.int .i64 (negI xs 0)) ∧ w' = w := by
  have eg := enters_of Tryz.func54 (by kernel_rfl) rfl
  obtain ⟨R, hR⟩ : ∃ R, negI xs 0 = R := ⟨_, rfl⟩
  have hRH := Lib.hid (show negI (xs.drop 0) 0 = R from hR)
  have hlen := Lib.hid hr.len
  rw [hR]
  clear hR
  go_enter Tryz.func53, Tryz.ntmps53
  go_wp2_with (fail)
  go_loopw [8] (fun v wr => ∃ i : Nat, i ≤ n ∧ v = .int .i64 i ∧ Hid (negI (xs.drop i) i = R) ∧ w = wr) (fun v _ => n - (intOf v).toNat)
  case atStart => exact ⟨0, by omega, rfl, hRH, rfl⟩
  case round =>
    obtain ⟨i, hin, rfl, hL, rfl⟩ := hrel
    by_cases hlt : i < n
    · have hlti : (i : Int) < n := by omega
      obtain ⟨ad, u, rfl, hadb, hu, hcell⟩ := Reads.at_ hr hlt
      obtain ⟨x, hx⟩ : ∃ x, xs[i]? = some x := ⟨_, List.getElem?_eq_getElem (by rw [hlen.out]; exact hlt)⟩
      obtain rfl : u = .int .i64 x := by
        rw [ints, List.getElem?_map, hx] at hu
        simpa using hu.symm
      have hst := negI_step hx
      rw [hL.out] at hst
      have hng := Lib.hid (neg_any x w)
      by_cases hq : x < 0
      · have hN := Lib.hid (show R = (i : Int) by rw [hst, if_pos hq])
        have hqH := Lib.hid (show decide (x < 0) = true by simp [hq])
        clear hst hq hu hx
        go_wp2_with (first
          | (with_reducible show Calls _ _ _ _ _; refine hng.out.mono ?_; rintro e w1 ⟨rfl, rfl⟩; rw [hqH.out]))
        go_ret
        exact ⟨by rw [hN.out]; rfl, rfl⟩
      · have hN := Lib.hid (show negI (xs.drop (i + 1)) (i + 1) = R by rw [hst, if_neg hq])
        have hqH := Lib.hid (show decide (x < 0) = false by simp [hq])
        clear hst hq hu hx
        go_wp2_with (first
          | (with_reducible show Calls _ _ _ _ _; refine hng.out.mono ?_; rintro e w1 ⟨rfl, rfl⟩; rw [hqH.out]))
        go_roundw
        case rel =>
          exact ⟨i + 1, by omega, by go_num, hN, by first | rfl | trivial⟩
        case measure => simp only [intOf]; omega
    · have hlti : ¬ (i : Int) < n := by omega
      have hN := Lib.hid (show R = -1 by rw [← hL.out, List.drop_of_length_le (by rw [hlen.out]; omega)]; rfl)
      go_wp2_with (fail)
      go_ret
      exact ⟨by rw [hN.out]; rfl, rfl⟩
set_option maxRecDepth 100000 in
set_option maxHeartbeats 4000000 in
theorem lacks_any (s : ByteArray) (b : Int) (hs : s.size ≤ 1000) (hok : okT (bts s) = true) (hb : -1000000 ≤ b ∧ b ≤ 1000000) (w : World) :
    Calls Tryz.prog 30 #[.string s, .int .i64 b] w fun e w' => e = .returned (.int .i64 (lacksT (bts s) b)) ∧ Below w.heap.size w w' := by
  have hst := Lib.hid (steps_any s b hs hok hb w)
  have hR := Lib.hid (show lacksT (bts s) b = negI (stepsT b (bts s)) 0 from rfl)
  have hsl : (stepsT b (bts s)).length ≤ 1000000 := by rw [steps_len, bts_len]; omega
  clear hok
  go_enter Tryz.func30, Tryz.ntmps30
  go_wp2_with (first
    | (go_at_call 31; (with_reducible refine hst.out.mono ?_); rintro e w1 ⟨v, rfl, ho, hb1⟩
       obtain ⟨A, c, rfl, hr⟩ := ho.reads)
    | (go_at_call 53; (with_reducible refine (indexNeg_any A _ c _ w1 _ hr hsl).mono ?_); rintro e w2 ⟨rfl, rfl⟩))
  go_ret
  exact ⟨by rw [hR.out]; rfl, hb1⟩
/-- what is returned -/
def coinL (l : Word) (b : Int) : List Int := if opT l b = 0 ∧ lacksT l b < 0 then stepsT b l else []
def coinE (l : Word) (b : Int) : Int := if opT l b ≠ 0 then opT l b else if lacksT l b < 0 then 0 else 14
def lackV (l : Word) (b : Int) : Int := if opT l b = 0 ∧ 0 ≤ lacksT l b then lacksT l b else 0
def lackE (l : Word) (b : Int) : Int := if opT l b ≠ 0 then opT l b else if lacksT l b < 0 then 12 else 0
def needV (l : Word) : Int := if chkT l = 0 then -((stepsT 0 l).foldl min 0) else 0
set_option maxRecDepth 100000 in
set_option maxHeartbeats 4000000 in
theorem Coins_any (s : ByteArray) (b : Int) (w : World) : Calls Tryz.prog 7 #[.string s, .int .i64 b] w (RetIE (coinL (bts s) b) (coinE (bts s) b) w) := by
  obtain ⟨k, hk⟩ : ∃ k, opT (bts s) b = k := ⟨_, rfl⟩
  have hkH := Lib.hid hk
  by_cases h0 : k = 0
  · subst h0
    obtain ⟨h1, h2, h3⟩ := opT_zero hk
    obtain ⟨h4, h5⟩ := chkT_zero h1
    rw [bts_len] at h4
    obtain ⟨n, hn⟩ : ∃ n, lacksT (bts s) b = n := ⟨_, rfl⟩
    have hlk := Lib.hid (fun w' => lacks_any s b (by omega) h5 (by omega) w')
    have hst := Lib.hid (fun w' => steps_any s b (by omega) h5 (by omega) w')
    rw [hn] at hlk
    by_cases hq : n < 0
    · have hR := Lib.hid (show coinL (bts s) b = stepsT b (bts s) ∧ coinE (bts s) b = 0 by unfold coinL coinE; rw [hk, hn]; simp [hq])
      have hqi : ¬ (0 : Int) ≤ n := by omega
      clear hk hn h1 h5
      rw [hR.out.1, hR.out.2]
      go_enter Tryz.func7, Tryz.ntmps7
      go_wp2_with (first
        | (go_at_call 29; (with_reducible refine (opened_any _ _ _).mono ?_); rintro e w1 ⟨rfl, hb1⟩; rw [hkH.out])
        | (go_at_call 30; (with_reducible refine (hlk.out _).mono ?_); rintro e w2 ⟨rfl, hb2⟩; replace hb2 := hb1.trans (hb2.mono hb1.size))
        | (go_at_call 31; (with_reducible refine (hst.out _).mono ?_); rintro e w3 ⟨v, rfl, ho, hb3⟩))
      go_ret2
      exact ⟨_, rfl, ho.rebase hb2.size, hb2.trans (hb3.mono hb2.size)⟩
    · have hR := Lib.hid (show coinL (bts s) b = [] ∧ coinE (bts s) b = 14 by unfold coinL coinE; rw [hk, hn]; simp [hq])
      have hqi : (0 : Int) ≤ n := by omega
      clear hk hn h1 h5 hst
      rw [hR.out.1, hR.out.2]
      go_enter Tryz.func7, Tryz.ntmps7
      go_wp2_with (first
        | (go_at_call 29; (with_reducible refine (opened_any _ _ _).mono ?_); rintro e w1 ⟨rfl, hb1⟩; rw [hkH.out])
        | (go_at_call 30; (with_reducible refine (hlk.out _).mono ?_); rintro e w2 ⟨rfl, hb2⟩; replace hb2 := hb1.trans (hb2.mono hb1.size)))
      go_ret2
      exact ⟨_, rfl, OwnI.nil _ _, hb2⟩
  · have hR := Lib.hid (show coinL (bts s) b = [] ∧ coinE (bts s) b = k by unfold coinL coinE; rw [hk]; simp [h0])
    have hk0 : (k != 0) = true := by simp [h0]
    clear hk
    rw [hR.out.1, hR.out.2]
    go_enter Tryz.func7, Tryz.ntmps7
    go_wp2_with (first
      | (go_at_call 29; (with_reducible refine (opened_any _ _ _).mono ?_); rintro e w1 ⟨rfl, hb1⟩; rw [hkH.out]))
    go_ret2
    exact ⟨_, rfl, OwnI.nil _ _, hb1⟩
set_option maxRecDepth 100000 in
set_option maxHeartbeats 4000000 in
theorem Needs_any (s : ByteArray) (w : World) : Calls Tryz.prog 19 #[.string s] w fun e w' => e = .returned (.tuple #[.int .i64 (needV (bts s)), .int .i64 (chkT (bts s))]) ∧ Below w.heap.size w w' := by
  obtain ⟨k, hk⟩ : ∃ k, chkT (bts s) = k := ⟨_, rfl⟩
  have hkH := Lib.hid hk
  by_cases h0 : k = 0
  · subst h0
    obtain ⟨h4, h5⟩ := chkT_zero hk
    rw [bts_len] at h4
    obtain ⟨P, hP⟩ : ∃ P, stepsT 0 (bts s) = P := ⟨_, rfl⟩
    have hst := Lib.hid (fun w' => steps_any s 0 (by omega) h5 (by omega) w')
    have hR := Lib.hid (show needV (bts s) = -(P.foldl min 0) by unfold needV; rw [if_pos hk, hP])
    have hbd := Lib.hid (show ∀ x ∈ P, -16 ≤ x ∧ x ≤ 16 by intro x hx; rw [← hP] at hx; have := steps_bound hx; rw [bts_len] at this; omega)
    rw [hP] at hst
    rw [hk]
    have hPl : P.length ≤ 16 := by rw [← hP, steps_len, bts_len]; omega
    clear hk h5 hP
    go_enter Tryz.func19, Tryz.ntmps19
    go_wp2_with (first
      | (go_at_call 32; (with_reducible refine (Check_any _ _).mono ?_); rintro e w1 ⟨rfl, hb1⟩; rw [hkH.out])
      | (go_at_call 31; (with_reducible refine (hst.out _).mono ?_); rintro e w2 ⟨v, rfl, ho, hb2⟩
         obtain ⟨A, c, rfl, hr⟩ := ho.reads
         replace hb2 := hb1.trans (hb2.mono hb1.size)))
    go_loopw [5, 16] (fun o v wr => ∃ (i : Nat) (m : Int), i ≤ P.length ∧ v = .int .i64 i ∧ o = .int .i64 m ∧ Hid (m = (P.take i).foldl min 0) ∧ -16 ≤ m ∧ m ≤ 0 ∧ w2 = wr) (fun _ v _ => P.length - (intOf v).toNat)
    case atStart => exact ⟨0, 0, by omega, rfl, rfl, Lib.hid rfl, by omega, by omega, rfl⟩
    case round =>
      obtain ⟨i, m, hi, rfl, rfl, hm, hm1, hm2, rfl⟩ := hrel
      by_cases hlt : i < P.length
      · have hlti : (i : Int) < P.length := by omega
        obtain ⟨ad, u, rfl, hadb, hu, hcell⟩ := Reads.at_ hr hlt
        obtain ⟨x, hx⟩ : ∃ x, P[i]? = some x := ⟨_, List.getElem?_eq_getElem hlt⟩
        obtain rfl : u = .int .i64 x := by
          rw [ints, List.getElem?_map, hx] at hu
          simpa using hu.symm
        have hxb := hbd.out x (List.mem_of_getElem? hx)
        obtain ⟨m', hm'⟩ : ∃ m', min m x = m' := ⟨_, rfl⟩
        have hN := Lib.hid (show m' = (P.take (i + 1)).foldl min 0 by rw [List.take_add_one, hx, Option.toList_some, List.foldl_append, ← hm.out, ← hm']; rfl)
        have hm3 : -16 ≤ m' ∧ m' ≤ 0 := by rw [← hm']; omega
        clear hu hx
        go_wp2_with (fail)
        go_roundw
        case rel => exact ⟨i + 1, m', by omega, by go_num, rfl, hN, hm3.1, hm3.2, by first | rfl | trivial⟩
        case measure => simp only [intOf]; omega
      · have hlti : ¬ (i : Int) < P.length := by omega
        have hmR := Lib.hid (show -m = needV (bts s) by rw [hR.out, hm.out, List.take_of_length_le (by omega)])
        go_wp2_with (fail)
        go_ret2
        exact ⟨by rw [← hmR.out]; rfl, hb2⟩
  · have hR := Lib.hid (show needV (bts s) = 0 by unfold needV; rw [hk]; simp [h0])
    have hk0 : (k != 0) = true := by simp [h0]
    rw [hk]
    clear hk
    rw [hR.out]
    go_enter Tryz.func19, Tryz.ntmps19
    go_wp2_with (first
      | (go_at_call 32; (with_reducible refine (Check_any _ _).mono ?_); rintro e w1 ⟨rfl, hb1⟩; rw [hkH.out]))
    go_ret2
    exact ⟨rfl, hb1⟩
end Go.Proofs.YthbkfhhnhiplkaaGreatDoor.Ti
/- Plain: how many can be chosen; how many orders are good. -/
namespace Go.Proofs.YthbkfhhnhiplkaaGreatDoor.Ti
/-- Pascal's triangle -/
def ch : Nat → Nat → Nat
  | _, 0 => 1
  | 0, _ + 1 => 0
  | m + 1, k + 1 => ch m k + ch m (k + 1)
theorem ch_zero (m : Nat) : ch m 0 = 1 := by cases m <;> rfl
theorem ch_none : ∀ (m k : Nat), m < k → ch m k = 0 := by
  intro m
  induction m with
  | zero => intro k h; cases k with
    | zero => omega
    | succ k => rfl
  | succ m ih => intro k h; cases k with
    | zero => omega
    | succ k => rw [ch, ih k (by omega), ih (k + 1) (by omega)]
theorem ch_self (m : Nat) : ch m m = 1 := by
  induction m with
  | zero => rfl
  | succ m ih => rw [ch, ih, ch_none m (m + 1) (by omega)]
theorem ch_step : ∀ (m k : Nat), ch m (k + 1) * (k + 1) = ch m k * (m - k) := by
  intro m
  induction m with
  | zero => intro k; rw [ch_none 0 (k + 1) (by omega)]; simp
  | succ m ih =>
    intro k
    cases k with
    | zero =>
      have := ih 0
      rw [ch_zero] at this ⊢
      rw [show ch (m + 1) (0 + 1) = ch m 0 + ch m (0 + 1) from rfl, ch_zero]
      omega
    | succ k =>
      have h1 := ih k
      have h2 := ih (k + 1)
      rw [ch, ch, Nat.add_mul, Nat.add_mul, h2, show m + 1 - (k + 1) = m - k by omega, ← h1, ← Nat.mul_add]
      rcases Nat.lt_or_ge m (k + 1) with hlt | hge
      · rw [ch_none m (k + 1) hlt]; simp
      · rw [← Nat.mul_add]
        congr 1
        omega
theorem ch_le : ∀ (m k : Nat), ch m k ≤ 2 ^ m := by
  intro m
  induction m with
  | zero => intro k; cases k <;> simp [ch]
  | succ m ih =>
    intro k
    cases k with
    | zero => rw [ch_zero]; exact Nat.one_le_two_pow
    | succ k =>
      have h1 := ih k
      have h2 := ih (k + 1)
      rw [ch, Nat.pow_succ]
      omega
/-- a step of the program's choose -/
theorem ch_div {m i : Nat} : ((ch m i : Nat) : Int) * ((m : Int) - i) / ((i : Int) + 1) = (ch m (i + 1) : Nat) := by
  rcases Nat.lt_or_ge m i with h | h
  · rw [ch_none m i h, ch_none m (i + 1) (by omega)]; simp
  · have := ch_step m i
    have e : ((ch m i : Nat) : Int) * ((m : Int) - i) = ((ch m (i + 1) : Nat) : Int) * ((i : Int) + 1) := by
      have h2 : ((m : Int) - i) = ((m - i : Nat) : Int) := by omega
      rw [h2, show ((i : Int) + 1) = ((i + 1 : Nat) : Int) by omega, ← Int.natCast_mul, ← Int.natCast_mul, this]
    rw [e, Int.mul_ediv_cancel _ (by omega)]
def chI (m : Nat) (n : Int) : Int := if n < 0 then 0 else (ch m n.toNat : Nat)
/-- the number of good orders, as the program counts -/
def balT (c n b : Int) : Int := if c < 0 ∨ n < 0 ∨ c + b < n then 0 else chI (c + n).toNat n - chI (c + n).toNat (n - b - 1)
/-- the number of good orders: the first customer pays with a coin, or with a note -/
def gdN : Nat → Nat → Nat → Nat → Nat
  | 0, _, _, _ => 1
  | s + 1, c, n, b => (if 0 < c then gdN s (c - 1) n (b + 1) else 0) + (if 0 < n ∧ 0 < b then gdN s c (n - 1) (b - 1) else 0)
theorem gd_none : ∀ (s c n b : Nat), s = c + n → c + b < n → gdN s c n b = 0 := by
  intro s
  induction s with
  | zero => intro c n b h1 h2; omega
  | succ s ih =>
    intro c n b h1 h2
    rw [gdN]
    have e1 : (if 0 < c then gdN s (c - 1) n (b + 1) else 0) = 0 := by
      split
      · exact ih _ _ _ (by omega) (by omega)
      · rfl
    have e2 : (if 0 < n ∧ 0 < b then gdN s c (n - 1) (b - 1) else 0) = 0 := by
      split
      · exact ih _ _ _ (by omega) (by omega)
      · rfl
    rw [e1, e2]
def flN (c n b : Nat) : Int := (ch (c + n) n : Nat) - (if n ≤ b then 0 else (ch (c + n) (n - b - 1) : Nat) : Int)
theorem gd_fl : ∀ (s c n b : Nat), s = c + n → n ≤ c + b → (gdN s c n b : Int) = flN c n b := by
  intro s
  induction s with
  | zero =>
    intro c n b h1 h2
    obtain ⟨rfl, rfl⟩ : c = 0 ∧ n = 0 := by omega
    simp [gdN, flN, ch]
  | succ s ih =>
    intro c n b h1 h2
    rw [gdN]
    cases c with
    | zero =>
      cases n with
      | zero => omega
      | succ n =>
        have hb : 0 < b := by omega
        rw [if_neg (by omega), if_pos ⟨by omega, hb⟩, Nat.zero_add, show n + 1 - 1 = n by omega, ih 0 n (b - 1) (by omega) (by omega)]
        unfold flN
        rw [Nat.zero_add, Nat.zero_add, ch_self, ch_self, if_pos (by omega), if_pos (by omega)]
    | succ c =>
      have hA := ih c n (b + 1) (by omega) (by omega)
      rw [if_pos (by omega)]
      cases n with
      | zero =>
        rw [if_neg (by omega), Nat.add_zero, show c + 1 - 1 = c by omega, hA]
        unfold flN
        rw [ch_zero, ch_zero, if_pos (by omega), if_pos (by omega)]
      | succ n =>
        have e1 : ch (c + 1 + (n + 1)) (n + 1) = ch (c + (n + 1)) n + ch (c + (n + 1)) (n + 1) := by
          rw [show c + 1 + (n + 1) = (c + (n + 1)) + 1 by omega, ch]
        rcases Nat.eq_zero_or_pos b with hb | hb
        · subst hb
          rw [if_neg (by omega), Nat.add_zero, show c + 1 - 1 = c by omega, hA]
          unfold flN
          rw [e1, if_neg (show ¬ n + 1 ≤ 0 by omega), show n + 1 - 0 - 1 = n by omega]
          cases n with
          | zero => rw [if_pos (by omega), ch_zero, ch_zero]; omega
          | succ n =>
            rw [if_neg (by omega), show n + 1 + 1 - (0 + 1) - 1 = n by omega, show c + 1 + (n + 1 + 1) = (c + (n + 1 + 1)) + 1 by omega, ch]
            omega
        · have hB := ih (c + 1) n (b - 1) (by omega) (by omega)
          rw [if_pos ⟨by omega, hb⟩, show c + 1 - 1 = c by omega, show n + 1 - 1 = n by omega]
          rw [Int.natCast_add, hA, hB]
          unfold flN
          rw [e1, show c + 1 + n = c + (n + 1) by omega]
          by_cases h3 : n + 1 ≤ b
          · rw [if_pos (by omega), if_pos (by omega), if_pos h3]; omega
          · rw [if_neg (show ¬ n ≤ b - 1 by omega), if_neg h3, show n - (b - 1) - 1 = n - b by omega, show n + 1 - b - 1 = n - b by omega]
            by_cases h4 : n + 1 ≤ b + 1
            · rw [if_pos h4, show n - b = 0 by omega, ch_zero, ch_zero]; omega
            · rw [if_neg h4, show n + 1 - (b + 1) - 1 = n - b - 1 by omega]
              obtain ⟨d, hd⟩ : ∃ d, n - b = d + 1 := ⟨n - b - 1, by omega⟩
              rw [hd, show c + 1 + (n + 1) = (c + (n + 1)) + 1 by omega, ch, show d + 1 - 1 = d by omega]
              omega
/-- both ways of counting -/
theorem bal_gd (c n b : Nat) : balT (c : Int) (n : Int) (b : Int) = (gdN (c + n) c n b : Nat) := by
  unfold balT
  by_cases h : (c : Int) + b < n
  · rw [if_pos (by omega), gd_none _ c n b rfl (by omega)]; rfl
  · rw [if_neg (by omega), gd_fl _ c n b rfl (by omega)]
    unfold flN chI
    rw [if_neg (by omega), show ((c : Int) + n).toNat = c + n by omega, show ((n : Int)).toNat = n by omega]
    by_cases h2 : n ≤ b
    · rw [if_pos (show (n : Int) - b - 1 < 0 by omega), if_pos h2]
    · rw [if_neg (show ¬ (n : Int) - b - 1 < 0 by omega), if_neg h2, show ((n : Int) - b - 1).toNat = n - b - 1 by omega]
/-- those that begin with a coin, and those that begin with a note -/
theorem gd_step {c n b : Nat} (h : 0 < c + n) : gdN (c + n) c n b = (if 0 < c then gdN (c - 1 + n) (c - 1) n (b + 1) else 0) + (if 0 < n ∧ 0 < b then gdN (c + (n - 1)) c (n - 1) (b - 1) else 0) := by
  obtain ⟨s, hs⟩ : ∃ s, c + n = s + 1 := ⟨c + n - 1, by omega⟩
  rw [hs, gdN]
  congr 1
  · by_cases hc : 0 < c
    · rw [if_pos hc, if_pos hc, show c - 1 + n = s by omega]
    · rw [if_neg hc, if_neg hc]
  · by_cases hc : 0 < n ∧ 0 < b
    · rw [if_pos hc, if_pos hc, show c + (n - 1) = s by omega]
    · rw [if_neg hc, if_neg hc]
theorem bal_bound {m : Nat} (h : m ≤ 16) (k : Int) : 0 ≤ chI m k ∧ chI m k ≤ 65536 := by
  unfold chI
  split
  · omega
  · have h1 := ch_le m k.toNat
    have h2 : 2 ^ m ≤ 2 ^ 16 := Nat.pow_le_pow_right (by omega) h
    have h3 : (2 : Nat) ^ 16 = 65536 := by decide
    omega
end Go.Proofs.YthbkfhhnhiplkaaGreatDoor.Ti
/- choose, ballots, counted, Count, First. -/
namespace Go.Proofs.YthbkfhhnhiplkaaGreatDoor.Ti
open Go.RowKit
theorem ch_facts {m i : Nat} (hm : m ≤ 16) : ∃ e : Int, ((ch m i : Nat) : Int) * ((m : Int) - i) = e ∧ -2000000 ≤ e ∧ e ≤ 2000000 ∧ 0 ≤ e ∧ e / ((i : Int) + 1) = (ch m (i + 1) : Nat) ∧ Int.tdiv e ((i : Int) + 1) = (ch m (i + 1) : Nat) := by
  refine ⟨_, rfl, ?_, ?_, ?_, ch_div, ?_⟩
  all_goals
    have h1 := ch_le m i
    have h2 : 2 ^ m ≤ 2 ^ 16 := Nat.pow_le_pow_right (by omega) hm
    have h3 : (2 : Nat) ^ 16 = 65536 := by decide
    have hp : 0 ≤ ((ch m i : Nat) : Int) * ((m : Int) - i) := by
      rcases Nat.lt_or_ge m i with h | h
      · rw [ch_none m i h]; simp
      · exact Int.mul_nonneg (by omega) (by omega)
  · omega
  · rcases Nat.lt_or_ge m i with h | h
    · rw [ch_none m i h]; simp
    · have h4 : ch m i * (m - i) ≤ 65536 * 16 := Nat.mul_le_mul (by omega) (by omega)
      rw [show (m : Int) - i = ((m - i : Nat) : Int) by omega, ← Int.natCast_mul]
      omega
  · exact hp
  · rw [Int.tdiv_eq_ediv_of_nonneg hp]; exact ch_div
set_option maxRecDepth 100000 in
set_option maxHeartbeats 4000000 in
theorem choose_any (m : Nat) (k : Int) (hm : m ≤ 16) (hk : k ≤ 100) (w : World) : Calls Tryz.prog 51 #[.int .i64 m, .int .i64 k] w fun e w' => e = .returned (.int .i64 (chI m k)) ∧ w' = w := by
  by_cases h0 : k < 0
  · have hR := Lib.hid (show chI m k = 0 by unfold chI; rw [if_pos h0])
    go_enter Tryz.func51, Tryz.ntmps51
    go_wp2_with (fail)
    go_ret
    exact ⟨by rw [hR.out]; rfl, rfl⟩
  · obtain ⟨j, rfl⟩ : ∃ j : Nat, k = j := ⟨k.toNat, by omega⟩
    have hR := Lib.hid (show chI m (j : Int) = (ch m j : Nat) by unfold chI; rw [if_neg h0]; simp)
    have hji : (j : Int) ≤ 100 := hk
    have hmi : (m : Int) ≤ 16 := by omega
    go_enter Tryz.func51, Tryz.ntmps51
    go_wp2_with (fail)
    go_loopw [5, 10] (fun o v wr => ∃ i : Nat, i ≤ j ∧ v = .int .i64 i ∧ o = .int .i64 (ch m i : Nat) ∧ w = wr) (fun _ v _ => j - (intOf v).toNat)
    case atStart => exact ⟨0, by omega, rfl, by rw [ch_zero]; rfl, rfl⟩
    case round =>
      obtain ⟨i, hi, rfl, rfl, rfl⟩ := hrel
      by_cases hlt : i < j
      · have hlti : (i : Int) < j := by omega
        obtain ⟨e, he, e1, e2, e3, e4, e5⟩ := ch_facts (m := m) (i := i) hm
        obtain ⟨f, hf⟩ : ∃ f : Nat, i + 1 = f := ⟨_, rfl⟩
        have hfi : (i : Int) + 1 = f := by omega
        rw [hf] at e4 e5
        rw [hfi] at e4 e5
        have hf0 : ¬ f = 0 := by omega
        have hf1 : ((f : Int) == 0) = false := by simp; omega
        obtain ⟨d, hd⟩ : ∃ d : Int, (m : Int) - i = d := ⟨_, rfl⟩
        rw [hd] at he
        have hdb : -100 ≤ d ∧ d ≤ 100 := by omega
        obtain ⟨hd1, hd2⟩ := hdb
        obtain ⟨C, hC⟩ : ∃ C, ch m i = C := ⟨_, rfl⟩
        obtain ⟨C2, hC2⟩ : ∃ C, ch m f = C := ⟨_, rfl⟩
        have hC2H := Lib.hid hC2
        have hC2b : (C2 : Int) ≤ 65536 := by
          have h1 := ch_le m f
          have h2 : 2 ^ m ≤ 2 ^ 16 := Nat.pow_le_pow_right (by omega) hm
          have h3 : (2 : Nat) ^ 16 = 65536 := by decide
          omega
        rw [hC] at he ⊢
        rw [hC2] at e4 e5
        clear hC hC2 hf
        go_wp2_with (fail)
        go_roundw
        case rel => exact ⟨f, by omega, by go_num, by rw [hC2H.out], by first | rfl | trivial⟩
        case measure => simp only [intOf]; omega
      · have hlti : ¬ (i : Int) < j := by omega
        obtain rfl : i = j := by omega
        go_wp2_with (fail)
        go_ret
        exact ⟨by rw [hR.out]; rfl, rfl⟩
set_option maxRecDepth 100000 in
set_option maxHeartbeats 4000000 in
theorem ballots_any (c n b : Int) (h1 : -10 ≤ c ∧ c ≤ 16) (h2 : -10 ≤ n ∧ n ≤ 16) (h3 : c + n ≤ 16) (h4 : -30 ≤ b ∧ b ≤ 60) (w : World) : Calls Tryz.prog 26 #[.int .i64 c, .int .i64 n, .int .i64 b] w fun e w' => e = .returned (.int .i64 (balT c n b)) ∧ w' = w := by
  by_cases hc : c < 0
  · have hR := Lib.hid (show balT c n b = 0 by unfold balT; rw [if_pos (Or.inl hc)])
    go_enter Tryz.func26, Tryz.ntmps26
    go_wp2_with (fail)
    go_ret
    exact ⟨by rw [hR.out]; rfl, rfl⟩
  · have hci : decide (c < 0) = false := by simp; omega
    by_cases hn : n < 0
    · have hR := Lib.hid (show balT c n b = 0 by unfold balT; rw [if_pos (Or.inr (Or.inl hn))])
      go_enter Tryz.func26, Tryz.ntmps26
      go_wp2_with (fail)
      go_ret
      exact ⟨by rw [hR.out]; rfl, rfl⟩
    · have hni : decide (n < 0) = false := by simp; omega
      obtain ⟨t, ht⟩ : ∃ t, c + b = t := ⟨_, rfl⟩
      by_cases hcb : t < n
      · have hR := Lib.hid (show balT c n b = 0 by unfold balT; rw [if_pos (Or.inr (Or.inr (by omega)))])
        go_enter Tryz.func26, Tryz.ntmps26
        go_wp2_with (fail)
        go_ret
        exact ⟨by rw [hR.out]; rfl, rfl⟩
      · have hti : decide (t < n) = false := by simp; omega
        obtain ⟨m, hm⟩ : ∃ m : Nat, c + n = m := ⟨(c + n).toNat, by omega⟩
        have hm16 : m ≤ 16 := by omega
        have hR := Lib.hid (show balT c n b = chI m n - chI m (n - b - 1) by unfold balT; rw [if_neg (by omega), hm]; rfl)
        obtain ⟨q, hq⟩ : ∃ q, n - b = q := ⟨_, rfl⟩
        obtain ⟨r, hr⟩ : ∃ r, q - 1 = r := ⟨_, rfl⟩
        rw [hq, hr] at hR
        have hA := Lib.hid (fun w' => choose_any m n hm16 (by omega) w')
        have hB := Lib.hid (fun w' => choose_any m r hm16 (by omega) w')
        obtain ⟨b1, b2⟩ := bal_bound hm16 n
        obtain ⟨b3, b4⟩ := bal_bound hm16 r
        obtain ⟨X, hX⟩ : ∃ X, chI m n = X := ⟨_, rfl⟩
        obtain ⟨Y, hY⟩ : ∃ Y, chI m r = Y := ⟨_, rfl⟩
        rw [hX, hY] at hR
        rw [hX] at hA b1 b2
        rw [hY] at hB b3 b4
        rw [hR.out]
        clear hX hY
        go_enter Tryz.func26, Tryz.ntmps26
        go_wp2_with (first
          | (go_at_call 51; (with_reducible refine (hA.out _).mono ?_); rintro e w1 ⟨rfl, rfl⟩)
          | (go_at_call 51; (with_reducible refine (hB.out _).mono ?_); rintro e w1 ⟨rfl, rfl⟩))
        go_ret
        exact ⟨rfl, rfl⟩
/-- the error of numbers of customers and coins -/
def cntE (c n b : Int) : Int := if c < 0 ∨ n < 0 ∨ 16 < c ∨ 16 < n ∨ 16 < c + n then 1 else if 0 ≤ b ∧ b ≤ 20 then 0 else 1
def cntV (c n b : Int) : Int := if cntE c n b = 0 then balT c n b else 0
theorem cntE_zero {c n b : Int} (h : cntE c n b = 0) : 0 ≤ c ∧ 0 ≤ n ∧ c + n ≤ 16 ∧ 0 ≤ b ∧ b ≤ 20 := by
  unfold cntE at h
  split at h
  · omega
  · split at h
    · omega
    · omega
set_option maxRecDepth 100000 in
set_option maxHeartbeats 4000000 in
theorem counted_any (c n b : Int) (w : World) : Calls Tryz.prog 24 #[.int .i64 c, .int .i64 n, .int .i64 b] w fun e w' => e = .returned (.tuple #[.int .i64 (cntV c n b), .int .i64 (cntE c n b)]) ∧ w' = w := by
  obtain ⟨mn, hmn⟩ : ∃ mn, min c n = mn := ⟨_, rfl⟩
  obtain ⟨mx, hmx⟩ : ∃ mx, max c n = mx := ⟨_, rfl⟩
  by_cases h1 : mn < 0
  · have hE := Lib.hid (show cntE c n b = 1 by unfold cntE; rw [if_pos (by omega)])
    have hV := Lib.hid (show cntV c n b = 0 by unfold cntV; rw [hE.out]; simp)
    rw [hE.out, hV.out]
    go_enter Tryz.func24, Tryz.ntmps24
    go_wp2_with (fail)
    go_ret2
    exact ⟨rfl, rfl⟩
  · have h1i : decide (mn < 0) = false := by simp; omega
    by_cases h2 : 16 < mx
    · have hE := Lib.hid (show cntE c n b = 1 by unfold cntE; rw [if_pos (by omega)])
      have hV := Lib.hid (show cntV c n b = 0 by unfold cntV; rw [hE.out]; simp)
      rw [hE.out, hV.out]
      go_enter Tryz.func24, Tryz.ntmps24
      go_wp2_with (fail)
      go_ret2
      exact ⟨rfl, rfl⟩
    · have h2i : decide (16 < mx) = false := by simp; omega
      have hcn : (0 ≤ c ∧ 0 ≤ n) ∧ (c ≤ 16 ∧ n ≤ 16) := by omega
      obtain ⟨⟨c0, n0⟩, c16, n16⟩ := hcn
      obtain ⟨t, ht⟩ : ∃ t, c + n = t := ⟨_, rfl⟩
      by_cases h3 : 16 < t
      · have hE := Lib.hid (show cntE c n b = 1 by unfold cntE; rw [if_pos (by omega)])
        have hV := Lib.hid (show cntV c n b = 0 by unfold cntV; rw [hE.out]; simp)
        rw [hE.out, hV.out]
        go_enter Tryz.func24, Tryz.ntmps24
        go_wp2_with (fail)
        go_ret2
        exact ⟨rfl, rfl⟩
      · have h3i : decide (16 < t) = false := by simp; omega
        obtain ⟨q, hq⟩ : ∃ q, decide ((0 : Int) ≤ b ∧ b ≤ 20) = q := ⟨_, rfl⟩
        have hqH := Lib.hid hq
        cases q with
        | true =>
          have hb : 0 ≤ b ∧ b ≤ 20 := by simpa using hq
          have hE := Lib.hid (show cntE c n b = 0 by unfold cntE; rw [if_neg (by omega), if_pos hb])
          have hV := Lib.hid (show cntV c n b = balT c n b by unfold cntV; rw [if_pos hE.out])
          have hbl := Lib.hid (fun w' => ballots_any c n b (by omega) (by omega) (by omega) (by omega) w')
          rw [hE.out, hV.out]
          clear hq
          go_enter Tryz.func24, Tryz.ntmps24
          go_wp2_with (first
            | (go_at_call 25; (with_reducible refine (between_any _ _ _ _).mono ?_); rintro e w2 ⟨rfl, rfl⟩; rw [hqH.out])
            | (go_at_call 26; (with_reducible refine (hbl.out _).mono ?_); rintro e w2 ⟨rfl, rfl⟩))
          go_ret2
          exact ⟨rfl, rfl⟩
        | false =>
          have hb : ¬ (0 ≤ b ∧ b ≤ 20) := by simpa using hq
          have hE := Lib.hid (show cntE c n b = 1 by unfold cntE; rw [if_neg (by omega), if_neg hb])
          have hV := Lib.hid (show cntV c n b = 0 by unfold cntV; rw [hE.out]; simp)
          rw [hE.out, hV.out]
          clear hq
          go_enter Tryz.func24, Tryz.ntmps24
          go_wp2_with (first
            | (go_at_call 25; (with_reducible refine (between_any _ _ _ _).mono ?_); rintro e w2 ⟨rfl, rfl⟩; rw [hqH.out]))
          go_ret2
          exact ⟨rfl, rfl⟩
set_option maxRecDepth 100000 in
set_option maxHeartbeats 1000000 in
theorem Count_any (c n b : Int) (w : World) : Calls Tryz.prog 5 #[.int .i64 c, .int .i64 n, .int .i64 b] w fun e w' => e = .returned (.tuple #[.int .i64 (cntV c n b), .int .i64 (cntE c n b)]) ∧ w' = w := by
  go_enter Tryz.func5, Tryz.ntmps5
  go_wp2_with (first
    | (go_at_call 24; (with_reducible refine (counted_any _ _ _ _).mono ?_); rintro e w2 ⟨rfl, rfl⟩))
  go_ret2
  exact ⟨rfl, rfl⟩
/-- what First returns -/
def firE (c n b : Int) : Int := if cntE c n b ≠ 0 then cntE c n b else if balT c n b = 0 then 12 else 0
def firV (c n b : Int) : Word := if firE c n b = 0 then List.replicate c.toNat 99 ++ List.replicate n.toNat 110 else []
theorem rep_one (x : UInt8) (k : Nat) : Lib.repeatL [x] k = List.replicate k x := by
  induction k with
  | zero => rfl
  | succ k ih => rw [Lib.repeatL, ih, List.replicate_succ]; rfl
end Go.Proofs.YthbkfhhnhiplkaaGreatDoor.Ti
/- At: the good order with a number. -/
namespace Go.Proofs.YthbkfhhnhiplkaaGreatDoor.Ti
open Go.RowKit
theorem zero_bld (w : World) : (zeroValue 60).run Tryz.prog w = .ok (.agg #[.pointer none, .slice none 0 0]) w := Tryz.zeroValue60 w
/-- how many go on with a coin -/
def gcN (c n b : Nat) : Nat := if 0 < c then gdN (c - 1 + n) (c - 1) n (b + 1) else 0
/-- the good order with a number -/
def atN : Nat → Nat → Nat → Nat → Nat → Word
  | 0, _, _, _, _ => []
  | s + 1, c, n, b, k => if k < gcN c n b then 99 :: atN s (c - 1) n (b + 1) k else 110 :: atN s c (n - 1) (b - 1) (k - gcN c n b)
theorem bal_gc (c n b : Nat) : balT ((c : Int) - 1) (n : Int) ((b : Int) + 1) = (gcN c n b : Nat) := by
  unfold gcN
  by_cases hc : 0 < c
  · rw [if_pos hc, show (c : Int) - 1 = ((c - 1 : Nat) : Int) by omega, show (b : Int) + 1 = ((b + 1 : Nat) : Int) by omega, bal_gd]
  · rw [if_neg hc]
    unfold balT
    rw [if_pos (by omega)]
    rfl
theorem gc_pos {c n b k : Nat} (h : k < gcN c n b) : 0 < c ∧ k < gdN (c - 1 + n) (c - 1) n (b + 1) := by
  unfold gcN at h
  split at h
  · exact ⟨by assumption, h⟩
  · omega
theorem gc_neg {c n b k : Nat} (h0 : 0 < c + n) (hk : k < gdN (c + n) c n b) (h : ¬ k < gcN c n b) : 0 < n ∧ 0 < b ∧ k - gcN c n b < gdN (c + (n - 1)) c (n - 1) (b - 1) := by
  rw [gd_step h0] at hk
  have e : (if 0 < c then gdN (c - 1 + n) (c - 1) n (b + 1) else 0) = gcN c n b := rfl
  rw [e] at hk
  split at hk
  · rename_i h2
    exact ⟨h2.1, h2.2, by omega⟩
  · omega
theorem bal_le {c n : Nat} (h : c + n ≤ 16) (b : Nat) : gdN (c + n) c n b ≤ 65536 := by
  have h1 := bal_gd c n b
  unfold balT at h1
  have h2 := bal_bound (m := ((c : Int) + n).toNat) (by omega) (n : Int)
  have h3 := bal_bound (m := ((c : Int) + n).toNat) (by omega) ((n : Int) - b - 1)
  split at h1 <;> omega
def atE (c n b k : Int) : Int := if cntE c n b ≠ 0 then cntE c n b else if 0 ≤ k ∧ k < balT c n b then 0 else 1
def atV (c n b k : Int) : Word := if atE c n b k = 0 then atN (c.toNat + n.toNat) c.toNat n.toNat b.toNat k.toNat else []
set_option maxRecDepth 100000 in
set_option maxHeartbeats 4000000 in
theorem At_any (c n b k : Int) (w : World) : Calls Tryz.prog 6 #[.int .i64 c, .int .i64 n, .int .i64 b, .int .i64 k] w fun e w' => e = .returned (.tuple #[.string ⟨(atV c n b k).toArray⟩, .int .i64 (atE c n b k)]) ∧ Below w.heap.size w w' := by
  obtain ⟨E, hE⟩ : ∃ E, cntE c n b = E := ⟨_, rfl⟩
  have hEH := Lib.hid hE
  by_cases h0 : E = 0
  · subst h0
    obtain ⟨q1, q2, q3, q4, q5⟩ := cntE_zero hE
    obtain ⟨C, rfl⟩ : ∃ C : Nat, c = C := ⟨c.toNat, by omega⟩
    obtain ⟨N, rfl⟩ : ∃ N : Nat, n = N := ⟨n.toNat, by omega⟩
    obtain ⟨b0, rfl⟩ : ∃ b0 : Nat, b = b0 := ⟨b.toNat, by omega⟩
    have hV := Lib.hid (show cntV (C : Int) (N : Int) (b0 : Int) = balT C N b0 by unfold cntV; rw [if_pos hE])
    obtain ⟨G, hG⟩ : ∃ G : Nat, gdN (C + N) C N b0 = G := ⟨_, rfl⟩
    have hGH := Lib.hid (show balT (C : Int) (N : Int) (b0 : Int) = (G : Nat) by rw [bal_gd, hG])
    have hG6 := bal_le (c := C) (n := N) (by omega) b0
    rw [hG] at hG6
    obtain ⟨G1, hG1⟩ : ∃ G1 : Int, (G : Int) - 1 = G1 := ⟨_, rfl⟩
    obtain ⟨q, hq⟩ : ∃ q, decide ((0 : Int) ≤ k ∧ k ≤ G1) = q := ⟨_, rfl⟩
    have hqH := Lib.hid hq
    cases q with
    | false =>
      have hb : ¬ (0 ≤ k ∧ k ≤ G1) := by simpa using hq
      have hA := Lib.hid (show atE (C : Int) (N : Int) (b0 : Int) k = 1 by unfold atE; rw [if_neg (by simp [hE]), if_neg (by rw [hGH.out]; omega)])
      have hB := Lib.hid (show atV (C : Int) (N : Int) (b0 : Int) k = [] by unfold atV; rw [hA.out]; rfl)
      rw [hA.out, hB.out]
      clear hE hG hq
      go_enter Tryz.func6, Tryz.ntmps6
      go_wp2_with (first
        | (go_at_call 24; (with_reducible refine (counted_any _ _ _ _).mono ?_); rintro e w2 ⟨rfl, rfl⟩; rw [hV.out, hEH.out, hGH.out])
        | (go_at_call 25; (with_reducible refine (between_any _ _ _ _).mono ?_); rintro e w2 ⟨rfl, rfl⟩; rw [hqH.out]))
      go_ret2
      exact ⟨rfl, Below.refl _ _⟩
    | true =>
      have hb : 0 ≤ k ∧ k ≤ G1 := by simpa using hq
      obtain ⟨K, rfl⟩ : ∃ K : Nat, k = K := ⟨k.toNat, by omega⟩
      have hA := Lib.hid (show atE (C : Int) (N : Int) (b0 : Int) (K : Int) = 0 by unfold atE; rw [if_neg (by simp [hE]), if_pos (by rw [hGH.out]; omega)])
      obtain ⟨R, hR⟩ : ∃ R, atN (C + N) C N b0 K = R := ⟨_, rfl⟩
      have hB := Lib.hid (show atV (C : Int) (N : Int) (b0 : Int) (K : Int) = R by unfold atV; rw [hA.out, if_pos rfl, ← hR]; rfl)
      rw [hA.out, hB.out]
      have hKG : K < gdN (C + N) C N b0 := by omega
      have hKGH := Lib.hid hKG
      have hRH := Lib.hid (show [] ++ atN (C + N) C N b0 K = R from hR)
      clear hE hG hq hR hKG
      go_enter Tryz.func6, Tryz.ntmps6
      go_wp2_with (first
        | (go_at_call 24; (with_reducible refine (counted_any _ _ _ _).mono ?_); rintro e wz ⟨rfl, hwz⟩; replace hwz := hwz.symm; subst hwz; rw [hV.out, hEH.out, hGH.out])
        | (go_at_call 25; (with_reducible refine (between_any _ _ _ _).mono ?_); rintro e wz ⟨rfl, hwz⟩; replace hwz := hwz.symm; subst hwz; rw [hqH.out])
        | (with_reducible show wpList _ _ _ (⟨_, .alloc 60, _, _, _, _⟩ :: _) _ _
           refine wpList_alloc_blk rfl 60 rfl _ zero_bld ?_
           intro w2 bb hBb hgr2 hge2
           have hb2 : Below w.heap.size w w2 := below_none (Below.refl _ _) hgr2 (Nat.le_refl _)
           have hbl2 := hBb.lt
           have hBF0 : Lib.IsBuilderF 60 5 bb bb [] w2 := Lib.IsBuilderF.of (Or.inl ⟨Nat.le_refl _, _, hBb, World.ownsRow_nil _ _ _ _, by simp [Value.ownBlock]⟩)
           clear hgr2 hBb))
      have hwb : w.heap.size ≤ bb := hge2
      simp only [Act.put, List.setIfInBounds_toArray, List.set_cons_succ, List.set_cons_zero]
      go_loopw [0, 1, 2, 3] (fun v0 v1 v2 v3 wr => ∃ (c n b k s : Nat) (out : Word), c + n = s ∧ s ≤ 16 ∧ c + b ≤ 36 ∧ k ≤ 65536 ∧ out.length + s ≤ 16 ∧ v0 = .int .i64 c ∧ v1 = .int .i64 n ∧ v2 = .int .i64 b ∧ v3 = .int .i64 k ∧ Hid (out ++ atN s c n b k = R) ∧ Hid (k < gdN s c n b) ∧ Lib.IsBuilderF 60 5 bb bb (Lib.byteCells out) wr ∧ bb < wr.heap.size ∧ Below w.heap.size w wr) (fun v0 v1 _ _ _ => (intOf v0).toNat + (intOf v1).toNat)
      case atStart => exact ⟨C, N, b0, K, C + N, [], rfl, by omega, by omega, by omega, by simp; omega, rfl, rfl, rfl, rfl, hRH, hKGH, hBF0, hbl2, hb2⟩
      case round =>
        clear hBF0 hbl2 hb2
        obtain ⟨c, n, b, k, s, out, hcs, hs16, hcb, hk6, hol0, rfl, rfl, rfl, rfl, hL, hlt, hBF, hbw, hbe⟩ := hrel
        have hcsi : (c : Int) + n = s := by omega
        have hol : (Lib.byteCells out).length + 1 ≤ 140737488355328 := by rw [Lib.byteCells_length]; omega
        cases s with
        | succ s =>
          have hsi : (0 : Int) < ((s + 1 : Nat) : Int) := by omega
          obtain ⟨X, hX⟩ : ∃ X, gcN c n b = X := ⟨_, rfl⟩
          obtain ⟨c1, hc1⟩ : ∃ c1 : Int, (c : Int) - 1 = c1 := ⟨_, rfl⟩
          obtain ⟨b1, hb1⟩ : ∃ b1 : Nat, (b : Int) + 1 = b1 := ⟨b + 1, by omega⟩
          have hb1n : b + 1 = b1 := by omega
          have hbl := Lib.hid (show ∀ w', Calls Tryz.prog 26 #[.int .i64 c1, .int .i64 n, .int .i64 b1] w' fun e w2 => e = .returned (.int .i64 (X : Nat)) ∧ w2 = w' from fun w' => (ballots_any c1 n b1 (by omega) (by omega) (by omega) (by omega) w').mono (by
            rintro e w2 ⟨rfl, h⟩
            exact ⟨by rw [← hc1, ← hb1, bal_gc, hX], h⟩))
          have hc1b : -1 ≤ c1 ∧ c1 ≤ 16 := by omega
          obtain ⟨hc1a, hc1b⟩ := hc1b
          have hX6 : (X : Int) ≤ 65536 := by
            rw [← hX]
            unfold gcN
            split
            · have := bal_le (c := c - 1) (n := n) (by omega) (b + 1)
              omega
            · omega
          by_cases hkX : k < X
          · have hki : (k : Int) < X := by omega
            obtain ⟨g1, g2⟩ := gc_pos (c := c) (n := n) (b := b) (k := k) (by rw [hX]; exact hkX)
            have e1 := Lib.hid (show c1 = ((c - 1 : Nat) : Int) by omega)
            have hN := Lib.hid (show (out ++ [99]) ++ atN s (c - 1) n b1 k = R by rw [← hL.out, atN, if_pos (by rw [hX]; exact hkX), hb1n]; simp)
            have hG := Lib.hid (show k < gdN s (c - 1) n b1 by rw [← hb1n, show s = c - 1 + n by omega]; exact g2)
            have hcl : c - 1 + n = s := by omega
            clear hX hb1n hkX
            go_wp2_with (first
              | (go_at_call 26; (with_reducible refine (hbl.out _).mono ?_); rintro e w3 ⟨rfl, rfl⟩)
              | (go_at_call 27; (with_reducible refine (Tryz.Builder_WriteByte_k bb bb _ _ _ hBF hol (Nat.le_of_lt hbw)).mono ?_); rintro e w5 ⟨rfl, hB5, hbl5, hok5⟩
                 have hb3 : Below w.heap.size w w5 := hbe.trans (hbl5.mono hwb)
                 have hbl3 : bb < w5.heap.size := (by have := hbl5.size; omega)
                 have hBF3 : Lib.IsBuilderF 60 5 bb bb (Lib.byteCells (out ++ [99])) w5 := by
                   have e : Lib.byteCells (out ++ [99]) = Lib.byteCells out ++ [.int .u8 99] := by simp [Lib.byteCells]
                   rw [e]; exact Or.inr hB5))
            go_roundw
            case rel => exact ⟨c - 1, n, b1, k, s, out ++ [99], hcl, by omega, by omega, hk6, by simp; omega, by rw [e1.out], rfl, rfl, rfl, hN, hG, hBF3, hbl3, hb3⟩
            case measure => (have hq1 := e1.out; rw [hq1]; simp only [intOf]; omega)
          · have hki : ¬ (k : Int) < X := by omega
            obtain ⟨g1, g2, g3⟩ := gc_neg (c := c) (n := n) (b := b) (k := k) (by omega) (by rw [hcs]; exact hlt.out) (by rw [hX]; exact hkX)
            rw [hX] at g3
            obtain ⟨k1, hk1⟩ : ∃ k1 : Nat, k - X = k1 := ⟨_, rfl⟩
            rw [hk1] at g3
            have hk1i : (k : Int) - X = k1 := by omega
            obtain ⟨n1, hn1⟩ : ∃ n1 : Nat, (n : Int) - 1 = n1 := ⟨n - 1, by omega⟩
            obtain ⟨b2, hb2'⟩ : ∃ b2 : Nat, (b : Int) - 1 = b2 := ⟨b - 1, by omega⟩
            have hN := Lib.hid (show (out ++ [110]) ++ atN s c n1 b2 k1 = R by rw [← hL.out, atN, if_neg (by rw [hX]; exact hkX), hX, hk1, show n - 1 = n1 by omega, show b - 1 = b2 by omega]; simp)
            have hG := Lib.hid (show k1 < gdN s c n1 b2 by rw [show n - 1 = n1 by omega, show b - 1 = b2 by omega] at g3; rw [show s = c + n1 by omega]; exact g3)
            have hcl : c + n1 = s := by omega
            clear hX hb1n hkX
            go_wp2_with (first
              | (go_at_call 26; (with_reducible refine (hbl.out _).mono ?_); rintro e w3 ⟨rfl, rfl⟩)
              | (go_at_call 27; (with_reducible refine (Tryz.Builder_WriteByte_k bb bb _ _ _ hBF hol (Nat.le_of_lt hbw)).mono ?_); rintro e w5 ⟨rfl, hB5, hbl5, hok5⟩
                 have hb3 : Below w.heap.size w w5 := hbe.trans (hbl5.mono hwb)
                 have hbl3 : bb < w5.heap.size := (by have := hbl5.size; omega)
                 have hBF3 : Lib.IsBuilderF 60 5 bb bb (Lib.byteCells (out ++ [110])) w5 := by
                   have e : Lib.byteCells (out ++ [110]) = Lib.byteCells out ++ [.int .u8 110] := by simp [Lib.byteCells]
                   rw [e]; exact Or.inr hB5))
            go_roundw
            case rel => exact ⟨c, n1, b2, k1, s, out ++ [110], hcl, by omega, by omega, by omega, by simp; omega, rfl, rfl, rfl, rfl, hN, hG, hBF3, hbl3, hb3⟩
            case measure => simp only [intOf]; omega
        | zero =>
          have hc0 : c = 0 := by omega
          have hn0 : n = 0 := by omega
          have hsi : ¬ (0 : Int) < ((0 : Nat) : Int) := by omega
          have hRo := Lib.hid (show out = R by rw [← hL.out, atN, List.append_nil])
          go_wp2_with (first
            | (go_at_call 28; (with_reducible refine (Tryz.Builder_String_any_k bb bb _ _ hBF (Nat.le_of_lt hbw)).mono ?_); rintro e w5 ⟨rfl, hB5, hbl5, hok5⟩))
          go_ret2
          exact ⟨by rw [← hRo.out]; rfl, hbe.trans (hbl5.mono hwb)⟩
  · have hA := Lib.hid (show atE c n b k = E by unfold atE; rw [hE, if_pos h0])
    have hB := Lib.hid (show atV c n b k = [] by unfold atV; rw [hA.out, if_neg h0])
    have hk0 : (E != 0) = true := by simp [h0]
    rw [hA.out, hB.out]
    clear hE
    go_enter Tryz.func6, Tryz.ntmps6
    go_wp2_with (first
      | (go_at_call 24; (with_reducible refine (counted_any _ _ _ _).mono ?_); rintro e w2 ⟨rfl, rfl⟩; rw [hEH.out]))
    go_ret2
    exact ⟨rfl, Below.refl _ _⟩
end Go.Proofs.YthbkfhhnhiplkaaGreatDoor.Ti
/- Number. -/
namespace Go.Proofs.YthbkfhhnhiplkaaGreatDoor.Ti
open Go.RowKit
/-- the number of an order: those that are smaller, customer by customer -/
def numT : Word → Int → Int → Int → Int
  | [], _, _, _ => 0
  | y :: l, c, n, b => if y = 99 then numT l (c - 1) n (b + 1) else balT (c - 1) n (b + 1) + numT l c (n - 1) (b - 1)
theorem balT_bound {c n : Int} (h : c + n ≤ 16) (b : Int) : -65536 ≤ balT c n b ∧ balT c n b ≤ 65536 := by
  unfold balT
  split
  · omega
  · have h1 := bal_bound (m := (c + n).toNat) (by omega) n
    have h2 := bal_bound (m := (c + n).toNat) (by omega) (n - b - 1)
    omega
def numV (l : Word) (b : Int) : Int := if opT l b = 0 ∧ lacksT l b < 0 then numT l (l.count 99 : Nat) ((l.length : Int) - (l.count 99 : Nat)) b else 0
end Go.Proofs.YthbkfhhnhiplkaaGreatDoor.Ti
/- Turns. -/
namespace Go.Proofs.YthbkfhhnhiplkaaGreatDoor.Ti
open Go.RowKit
/-- coins ahead of a place -/
def befT (L : List Int) (k : Nat) : Int := if k = 0 then 0 else L.getD (k - 1) 0
def turnP (L : List Int) (n : Nat) (keep : Int) (k : Nat) : Bool := decide (keep ≤ Lib.minOf ((L.drop k).take n) - befT L k)
def turnN (L : List Int) (n : Nat) (keep : Int) (m : Nat) : List Int := ((List.range m).filter (turnP L n keep)).map fun k : Nat => (k : Int)
def turnL (l : Word) (keep : Int) : List Int := if opT l keep = 0 then turnN (stepsT 0 (l ++ l)) l.length keep l.length else []
theorem turnN_succ (L : List Int) (n : Nat) (keep : Int) (m : Nat) : turnN L n keep (m + 1) = turnN L n keep m ++ (if turnP L n keep m then [(m : Int)] else []) := by
  unfold turnN
  rw [List.range_succ, List.filter_append, List.map_append]
  congr 1
  by_cases h : turnP L n keep m = true
  · simp [h]
  · simp [h]
theorem turnN_len (L : List Int) (n : Nat) (keep : Int) (m : Nat) : (turnN L n keep m).length ≤ m := by
  unfold turnN
  rw [List.length_map]
  exact Nat.le_trans (List.length_filter_le _ _) (by simp)
theorem minOf_bound {l : List Int} {a b : Int} (hne : 0 < l.length) (h : ∀ x ∈ l, a ≤ x ∧ x ≤ b) : a ≤ Lib.minOf l ∧ Lib.minOf l ≤ b := by
  have key : ∀ (m : List Int) (z : Int), (a ≤ z ∧ z ≤ b) → (∀ x ∈ m, a ≤ x ∧ x ≤ b) → a ≤ m.foldl min z ∧ m.foldl min z ≤ b := by
    intro m
    induction m with
    | nil => intro z hz _; exact hz
    | cons y m ih =>
      intro z hz hm
      have hy := hm y (by simp)
      exact ih (min z y) (by omega) (fun x hx => hm x (by simp [hx]))
  cases l with
  | nil => simp at hne
  | cons y l => exact key (y :: l) y (h y (by simp)) h
end Go.Proofs.YthbkfhhnhiplkaaGreatDoor.Ti
/- A list of pairs that the call itself makes; a heap of ints whose top is cut off. -/
namespace Go.Proofs.YthbkfhhnhiplkaaGreatDoor.Ti
open Go.RowKit
/-- a list of pairs that the call itself makes -/
def pairsV (ps : List (Nat × Nat)) : List Value := ps.flatMap fun p => [.int .i64 (p.1 : Nat), .int .i64 (p.2 : Nat)]
def OwnP (w : World) (base : Nat) (v : Value) (ps : List (Nat × Nat)) : Prop := w.ownsRow base 37 2 v ps.length (pairsV ps)
theorem infoPair : (Tryz.prog.info? 37).map (fun i => (i.zero, i.size, i.bytes)) = some (some (.agg #[.int .i64 0, .int .i64 0]), 2, 16) := by kernel_rfl
theorem OwnP.nil (w : World) (base : Nat) : OwnP w base (.slice none 0 0) [] := World.ownsRow_nil _ _ _ _
theorem OwnP.keep {w w' : World} {base : Nat} {v : Value} {ps : List (Nat × Nat)} (h : OwnP w base v ps) (hk : ∀ g, v.ownBlock = some g → w'.heap[g]? = w.heap[g]?) : OwnP w' base v ps := by
  refine ⟨h.1, ?_⟩
  rcases h.2 with h0 | ⟨g, cap, cur, rfl, hb, hg, r⟩
  · exact .inl h0
  · exact .inr ⟨g, cap, cur, rfl, hb, (hk g rfl).trans hg, r⟩
theorem OwnP.ge {w : World} {base : Nat} {v : Value} {ps : List (Nat × Nat)} (h : OwnP w base v ps) {g : Nat} (hg : v.ownBlock = some g) : base ≤ g := (World.ownsRow.lt h g hg).1
theorem OwnP.lt {w : World} {base : Nat} {v : Value} {ps : List (Nat × Nat)} (h : OwnP w base v ps) {g : Nat} (hg : v.ownBlock = some g) : g < w.heap.size := (World.ownsRow.lt h g hg).2
theorem OwnP.callee {w w' : World} {base : Nat} {v : Value} {ps : List (Nat × Nat)} (h : OwnP w base v ps) (hb : Below w.heap.size w w') : OwnP w' base v ps := h.keep fun g hg => hb.block g (h.lt hg)
theorem OwnP.none_ {w w' : World} {base : Nat} {v : Value} {ps : List (Nat × Nat)} (h : OwnP w base v ps) (hb : w.grownBy w' none) : OwnP w' base v ps := h.keep fun g hg => hb.block g (h.lt hg) (by simp)
theorem OwnP.form {w : World} {base : Nat} {v : Value} {ps : List (Nat × Nat)} (h : OwnP w base v ps) : ∃ A c, v = .slice A ps.length c := by
  rcases h.2 with ⟨rfl, h0⟩ | ⟨g, cap, cur, rfl, _⟩
  · exact ⟨none, 0, by rw [h0]⟩
  · exact ⟨_, _, rfl⟩
theorem OwnP.rebase {w : World} {b b' : Nat} {v : Value} {xs : List (Nat × Nat)} (h : OwnP w b v xs) (hb : b' ≤ b) : OwnP w b' v xs := by
  refine ⟨h.1, ?_⟩
  rcases h.2 with h0 | ⟨g, cap, cur, rfl, hg, r⟩
  · exact .inl h0
  · exact .inr ⟨g, cap, cur, rfl, Nat.le_trans hb hg, r⟩
/-- what lies at the block of an own list of pairs -/
theorem OwnP.block {w : World} {base g : Nat} {v : Value} {ps : List (Nat × Nat)} (h : OwnP w base v ps) (hg : v.ownBlock = some g) : ∃ cs, w.heap[g]? = some (.cells cs 37 (0, 0)) := by
  rcases h.2 with ⟨rfl, _⟩ | ⟨g', cap, cur, rfl, _, hg', _⟩
  · simp [Value.ownBlock] at hg
  · obtain rfl : g' = g := by simpa [Value.ownBlock] using hg
    exact ⟨cur, hg'⟩
theorem wpList_pushP {w : World} {base : Nat} {v : Value} {ps : List (Nat × Nat)} {ops : Array Oper} {rest : List Oper} {o : Oper} {a : Act} {Q : Exit → Act → World → Prop} (hgd : o.guard = none) (s x : Operand)
    (ho : o.op = .call { callee := .builtin .append, args := #[s, x], argTypes := #[31, 31] }) (hs : a.eval s = v) (hown : OwnP w base v ps)
    (B c : Nat) (y z : Nat) (hx : a.eval x = .slice (some ⟨B, 0, none⟩) 1 c) (hB : Blk w B 37 #[.int .i64 (y : Nat), .int .i64 (z : Nat)]) (hlen : ps.length ≤ 1000000000) (hbase : base ≤ w.heap.size)
    (h : ∀ (v' : Value) (w' : World), OwnP w' base v' (ps ++ [(y, z)]) → w.grownBy w' v.ownBlock → wpList Tryz.prog ops Q rest (a.put o.dst v') w') : wpList Tryz.prog ops Q (o :: rest) a w := by
  obtain ⟨i0, hi0, hz0, hz1, hz2⟩ := info_parts infoPair
  refine wpList_append_lies w hgd s x 31 ho base 37 i0 (.agg #[.int .i64 0, .int .i64 0]) 2 16 Tryz.underlying31 hi0 hz0 hz1 hz2 rfl (by decide) v ps.length (pairsV ps) hs hown ⟨B, 0, none⟩ 1 c [.int .i64 (y : Nat), .int .i64 (z : Nat)] hx rfl
    (World.news_of_block hB) (by simp [Value.oneCell']) (by decide) (by simp only [maxLen]; omega) (by omega) hbase _ rfl ?_
  intro g cap w' hown' hgr hat hlt
  refine h _ w' ?_ hgr
  unfold OwnP
  have e : pairsV (ps ++ [(y, z)]) = pairsV ps ++ [.int .i64 (y : Nat), .int .i64 (z : Nat)] := by simp [pairsV]
  rw [e, List.length_append]
  exact hown'
/-- a heap of ints: an own list, or one whose top was cut off -/
def Stk (w : World) (base : Nat) (v : Value) (xs : List Int) : Prop :=
  OwnI w base v xs ∨ ∃ g cs, v = .slice (some ⟨g, 0, none⟩) xs.length xs.length ∧ base ≤ g ∧ w.heap[g]? = some (.cells cs 3 (0, 0)) ∧ ∀ j, j < xs.length → cs[j]? = some (.int .i64 (xs.getD j 0))
theorem Stk.keep {w w' : World} {base : Nat} {v : Value} {xs : List Int} (h : Stk w base v xs) (hk : ∀ g cs, w.heap[g]? = some (.cells cs 3 (0, 0)) → base ≤ g → w'.heap[g]? = w.heap[g]?) : Stk w' base v xs := by
  rcases h with h | ⟨g, cs, rfl, hb, hg, r⟩
  · refine Or.inl (h.keep fun g hg => ?_)
    have hge := h.ge hg
    rcases h.2 with ⟨rfl, _⟩ | ⟨g', cap, cur, rfl, _, hg', _⟩
    · simp [Value.ownBlock] at hg
    · obtain rfl : g' = g := by simpa [Value.ownBlock] using hg
      exact hk _ _ hg' hge
  · exact Or.inr ⟨g, cs, rfl, hb, (hk g cs hg hb).trans hg, r⟩
theorem Stk.len {w : World} {base : Nat} {v : Value} {xs : List Int} (h : Stk w base v xs) : ∃ A c, v = .slice A xs.length c := by
  rcases h with h | ⟨g, cs, rfl, _⟩
  · obtain ⟨A, c, e, _⟩ := h.reads
    exact ⟨A, c, e⟩
  · exact ⟨_, _, rfl⟩
theorem Stk.pop {w : World} {base : Nat} {v : Value} {xs : List Int} {y : Int} (h : Stk w base v (xs ++ [y])) : ∃ g c, v = .slice (some ⟨g, 0, none⟩) (xs.length + 1) c ∧ xs.length + 1 ≤ c ∧ w.cell? ⟨g, xs.length, none⟩ = some (.int .i64 y) ∧
    Stk w base (.slice (some ⟨g, 0, none⟩) xs.length xs.length) xs := by
  rcases h with h | ⟨g, cs, rfl, hb, hg, r⟩
  · rcases h.2 with ⟨_, h0⟩ | ⟨g, cap, cur, rfl, hb, hg, hc, hm, hsz, htk⟩
    · simp at h0
    · have hcur : ∀ j, j < (xs ++ [y]).length → cur[j]? = some (.int .i64 ((xs ++ [y]).getD j 0)) := by
        intro j hj
        have h2 := ints_get (xs ++ [y]) j hj
        rw [← htk, List.getElem?_take, if_pos (by omega)] at h2
        simpa using h2
      refine ⟨g, cap, by simp, by simpa using hc, ?_, Or.inr ⟨g, cur, rfl, hb, hg, fun j hj => ?_⟩⟩
      · rw [cell_of_row w g _ cur _ _ hg, hcur _ (by simp)]
        simp [List.getD]
      · rw [hcur j (by simp; omega)]
        simp [List.getD, List.getElem?_append_left hj]
  · refine ⟨g, xs.length + 1, by simp, Nat.le_refl _, ?_, Or.inr ⟨g, cs, rfl, hb, hg, fun j hj => ?_⟩⟩
    · rw [cell_of_row w g _ cs _ _ hg, r _ (by simp)]
      simp [List.getD]
    · rw [r j (by simp; omega)]
      simp [List.getD, List.getElem?_append_left hj]
theorem wpList_pushK {w : World} {base : Nat} {v : Value} {xs : List Int} {ops : Array Oper} {rest : List Oper} {o : Oper} {a : Act} {Q : Exit → Act → World → Prop} (hgd : o.guard = none) (s x : Operand)
    (ho : o.op = .call { callee := .builtin .append, args := #[s, x], argTypes := #[28, 28] }) (hs : a.eval s = v) (hown : Stk w base v xs)
    (B c : Nat) (y : Int) (hx : a.eval x = .slice (some ⟨B, 0, none⟩) 1 c) (hB : Blk w B 3 #[.int .i64 y]) (hlen : xs.length ≤ 1000000000) (hbase : base ≤ w.heap.size)
    (h : ∀ (v' : Value) (w' : World) (row : Option Nat), Stk w' base v' (xs ++ [y]) → w.grownBy w' row → (∀ g, row = some g → base ≤ g ∧ ∃ cs, w.heap[g]? = some (.cells cs 3 (0, 0))) → wpList Tryz.prog ops Q rest (a.put o.dst v') w') : wpList Tryz.prog ops Q (o :: rest) a w := by
  rcases hown with hown | ⟨g, cs, hv, hb, hg, hc⟩
  · refine wpList_push hgd s x ho hs hown B c y hx hB hlen hbase fun g cap w' h2 h3 _ _ => h _ w' _ (Or.inl (by simpa using h2)) h3 fun k hk => ⟨hown.ge hk, ?_⟩
    rcases hown.2 with ⟨rfl, _⟩ | ⟨g', cap, cur, rfl, _, hg', _⟩
    · simp [Value.ownBlock] at hk
    · obtain rfl : g' = k := by simpa [Value.ownBlock] using hk
      exact ⟨cur, hg'⟩
  · obtain ⟨i0, hi0, hz0, hz1, hz2⟩ := info_parts infoInt
    refine wpList_append_grows w hgd s x 28 ho 3 i0 (.int .i64 0) 1 8 Tryz.underlying28 hi0 hz0 hz1 hz2 rfl (by decide) (some ⟨g, 0, none⟩) xs.length xs.length (ints xs) (by rw [hs, hv]) (fun e => by cases e) (by rw [ints_length, Nat.mul_one]) ?_
      ⟨B, 0, none⟩ 1 c [.int .i64 y] hx rfl (World.news_of_block hB) (by simp [Value.oneCell']) (by omega) (by simp only [maxLen]; omega) (by omega) ?_
    · intro b e j u hu
      obtain rfl : (⟨g, 0, none⟩ : Addr) = b := by injection e
      have hj : j < xs.length := by
        have := (List.getElem?_eq_some_iff.1 hu).1
        rwa [ints_length] at this
      rw [ints_get xs j hj] at hu
      have e2 : (⟨g, 0, none⟩ : Addr).add j = ⟨g, j, none⟩ := by unfold Addr.add; split <;> simp_all
      rw [e2, cell_of_row w g j cs _ _ hg, hc j hj, hu]
    · intro v' w' h1 h2
      refine h v' w' none (Or.inl ?_) h2 (fun g hg => by cases hg)
      have h3 : OwnI w' w.heap.size v' (xs ++ [y]) := by
        unfold OwnI
        rw [ints_append, List.length_append]
        exact h1
      exact h3.rebase hbase
end Go.Proofs.YthbkfhhnhiplkaaGreatDoor.Ti
/- Pairs. -/
namespace Go.Proofs.YthbkfhhnhiplkaaGreatDoor.Ti
open Go.RowKit
/-- whose coins go back to whom: places of coins lie on a heap -/
def pairT : Word → Nat → List Nat → List (Nat × Nat)
  | [], _, _ => []
  | y :: l, i, st => if y = 99 then pairT l (i + 1) (st ++ [i]) else (st.getLastD 0, i) :: pairT l (i + 1) st.dropLast
def pairL (l : Word) : List (Nat × Nat) := if chkT l = 0 ∧ lacksT l 0 < 0 then pairT l 0 [] else []
def pairE (l : Word) : Int := if chkT l ≠ 0 then chkT l else if lacksT l 0 < 0 then 0 else 14
def RetPE (xs : List (Nat × Nat)) (err : Int) (w : World) (e : Ending) (w' : World) : Prop := ∃ v, e = .returned (.tuple #[v, .int .i64 err]) ∧ OwnP w' w.heap.size v xs ∧ Below w.heap.size w w'
theorem negI_all {xs : List Int} : ∀ i : Nat, negI xs i < 0 → ∀ x ∈ xs, 0 ≤ x := by
  induction xs with
  | nil => intro i _ x hx; cases hx
  | cons y xs ih =>
    intro i h x hx
    rw [negI] at h
    split at h
    · omega
    · rcases List.mem_cons.1 hx with rfl | hx
      · omega
      · exact ih (i + 1) h x hx
theorem lacks_end {l : Word} {b : Int} (h : lacksT l b < 0) {i : Nat} (hi : i < l.length) : 0 ≤ endT b (l.take (i + 1)) :=
  negI_all 0 h _ (List.mem_of_getElem? (steps_get l b i hi))
def nats (l : List Nat) : List Int := l.map fun k : Nat => (k : Int)
set_option maxRecDepth 100000 in
set_option maxHeartbeats 4000000 in
theorem Pairs_any (s : ByteArray) (w : World) : Calls Tryz.prog 8 #[.string s] w (RetPE (pairL (bts s)) (pairE (bts s)) w) := by
  obtain ⟨k, hk⟩ : ∃ k, chkT (bts s) = k := ⟨_, rfl⟩
  have hkH := Lib.hid hk
  by_cases h0 : k = 0
  · subst h0
    obtain ⟨h4, h5⟩ := chkT_zero hk
    rw [bts_len] at h4
    obtain ⟨n, hn⟩ : ∃ n, lacksT (bts s) 0 = n := ⟨_, rfl⟩
    have hlk := Lib.hid (fun w' => lacks_any s 0 (by omega) h5 (by omega) w')
    rw [hn] at hlk
    by_cases hq : n < 0
    · obtain ⟨R, hR⟩ : ∃ R, pairT (bts s) 0 [] = R := ⟨_, rfl⟩
      have hL := Lib.hid (show pairL (bts s) = R by unfold pairL; rw [if_pos ⟨hk, by omega⟩, hR])
      have hE := Lib.hid (show pairE (bts s) = 0 by unfold pairE; rw [hk, hn]; simp [hq])
      have hRH := Lib.hid (show [] ++ pairT ((bts s).drop 0) 0 [] = R from hR)
      have hend := Lib.hid (fun i hi => lacks_end (l := bts s) (b := 0) (by omega) (i := i) hi)
      have hokH := Lib.hid h5
      have hqi : ¬ (0 : Int) ≤ n := by omega
      rw [hL.out, hE.out]
      clear hk hn h5 hR
      go_enter Tryz.func8, Tryz.ntmps8
      go_wp2_with (first
        | (go_at_call 32; (with_reducible refine (Check_any _ _).mono ?_); rintro e w1 ⟨rfl, hb1⟩; rw [hkH.out])
        | (go_at_call 30; (with_reducible refine (hlk.out _).mono ?_); rintro e w2 ⟨rfl, hb2⟩; replace hb2 := hb1.trans (hb2.mono hb1.size)))
      go_loopw [5, 6] (fun o5 o6 wr => ∃ (pos : Nat) (st : List Nat) (P : List (Nat × Nat)), pos ≤ s.size ∧ Hid ((st.length : Int) = endT 0 ((bts s).take pos)) ∧ st.length ≤ pos ∧ P.length ≤ pos ∧ Hid (∀ x ∈ st, x < pos) ∧ Hid (P ++ pairT ((bts s).drop pos) pos st = R) ∧ OwnP wr w2.heap.size o5 P ∧ Stk wr w2.heap.size o6 (nats st) ∧ wr.heap[w2.heap.size]? = some (.stringIter s pos) ∧ Below w2.heap.size w2 wr) (fun _ _ wr => s.size - wr.iterPos w2.heap.size)
      case atStart => exact ⟨0, [], [], by omega, Lib.hid rfl, by simp, by simp, Lib.hid (fun x hx => by cases hx), hRH, OwnP.nil _ _, Or.inl (OwnI.nil _ _), by first | exact World.iter_heap w2 s 0 | simp, (Below.refl _ _).alloc (Nat.le_refl _) _⟩
      case round =>
        obtain ⟨pos, st, P, hpos, hst, hsl, hPl, hlt, hL', hoP, hoS, hit, hbe⟩ := hrel
        by_cases hp : pos < s.size
        · obtain ⟨y, wn, hy, hitn, hgn, hyy⟩ := iter_cn hokH.out hit hp
          have hben := below_some hbe hgn hbe.size (Nat.le_refl _)
          have hd : (bts s).drop pos = y :: (bts s).drop (pos + 1) := by
            obtain ⟨hl, he⟩ := List.getElem?_eq_some_iff.1 hy
            rw [List.drop_eq_getElem_cons hl, he]
          have hPn : OwnP wn w2.heap.size _ P := hoP.keep fun g hg => hgn.block g (hoP.lt hg) (fun e => by
            obtain ⟨cs, hcs⟩ := hoP.block hg
            injection e with e
            rw [e, hit] at hcs
            cases hcs)
          have hSn : Stk wn w2.heap.size _ (nats st) := hoS.keep fun g cs hg _ => hgn.block g (heap_lt hg) (fun e => by
            injection e with e
            rw [e, hit] at hg
            cases hg)
          have hend2 := hend.out pos (by rw [bts_len]; exact hp)
          have het : endT 0 ((bts s).take (pos + 1)) = stp st.length y := by rw [List.take_add_one, hy, Option.toList_some, end_snoc, ← hst.out]
          rw [het] at hend2
          have hetH := Lib.hid het
          have hLo := hL'.out
          rw [hd] at hLo
          have hnl : (nats st).length = st.length := by simp [nats]
          rcases hyy with ⟨rfl, hnx⟩ | ⟨rfl, hnx⟩
          · have hN := Lib.hid (show P ++ pairT ((bts s).drop (pos + 1)) (pos + 1) (st ++ [pos]) = R by rw [← hLo, pairT, if_pos rfl])
            have hst1 := Lib.hid (show ((st ++ [pos]).length : Int) = endT 0 ((bts s).take (pos + 1)) by rw [hetH.out]; simp [stp])
            have hlt1 := Lib.hid (show ∀ x ∈ st ++ [pos], x < pos + 1 by
              intro x hx
              rcases List.mem_append.1 hx with hx | hx
              · have := hlt.out x hx; omega
              · obtain rfl : x = pos := by simpa using hx
                omega)
            have hns := Lib.hid (show nats (st ++ [pos]) = nats st ++ [(pos : Int)] by simp [nats])
            clear hy hd hLo het hend2
            go_wp2_with (first
              | (at_builtin
                 refine wpList_pushK rfl _ _ rfl rfl (hSn.keep fun g cs hg _ => (World.grownBy_alloc wn (.cells #[.int .i64 (pos : Int)] 3) none).block g (heap_lt hg) (by simp)) wn.heap.size 1 (pos : Int) rfl (Blk.new wn _ _) (by omega) (by have := hben.size; show _ ≤ (wn.heap.push _).size; simp; omega) ?_
                 intro v6 w6 row6 ho6 hgr6 hrow6
                 have hb6 := (hben.alloc hben.size (.cells #[.int .i64 (pos : Int)] 3)).grown hgr6 (by have := hben.size; show _ ≤ (wn.heap.push _).size; simp; omega) (fun g hg => (hrow6 g hg).1)
                 have hit6 := iter_stay (iter_stay hitn (World.grownBy_alloc wn (.cells #[.int .i64 (pos : Int)] 3) none) (by simp)) hgr6 (fun e => by
                   obtain ⟨_, cs, hcs⟩ := hrow6 _ e.symm
                   have := iter_stay hitn (World.grownBy_alloc wn (.cells #[.int .i64 (pos : Int)] 3) none) (by simp)
                   rw [this] at hcs
                   cases hcs)
                 have hP1 := hPn.none_ (World.grownBy_alloc wn (.cells #[.int .i64 (pos : Int)] 3) none)
                 have hP6 : OwnP w6 w2.heap.size _ P := hP1.keep fun g hg => hgr6.block g (hP1.lt hg) (fun e => by
                   obtain ⟨_, cs, hcs⟩ := hrow6 _ e.symm
                   obtain ⟨cs2, hcs2⟩ := hP1.block hg
                   rw [hcs2] at hcs
                   injection hcs with hcs
                   injection hcs with _ hcs
                   exact absurd hcs (by decide))))
            go_roundw
            case rel => exact ⟨pos + 1, st ++ [pos], P, by omega, hst1, by simp; omega, by omega, hlt1, hN, hP6, by rw [hns.out]; exact ho6, hit6, hb6⟩
            case measure => simp only [World.iterPos, hit, hit6]; omega
          · have h110 : stp (st.length : Int) 110 = (st.length : Int) - 1 := rfl
            rw [h110] at hend2
            obtain ⟨st0, t, rfl⟩ : ∃ st0 t, st = st0 ++ [t] := by
              have hne : st ≠ [] := by
                intro e
                rw [e] at hend2
                simp at hend2
              exact ⟨st.dropLast, st.getLast hne, (List.dropLast_concat_getLast hne).symm⟩
            have hns : nats (st0 ++ [t]) = nats st0 ++ [(t : Int)] := by simp [nats]
            rw [hns] at hSn
            obtain ⟨g, c, hv, hcc, hcell, hS0⟩ := Stk.pop hSn
            subst hv
            have htp := hlt.out t (by simp)
            rw [List.length_append, List.length_singleton] at hsl
            have hql : (nats st0).length ≤ 16 := by
              have : (nats st0).length = st0.length := by simp [nats]
              omega
            obtain ⟨q, hqe⟩ : ∃ q, (nats st0).length = q := ⟨_, rfl⟩
            rw [hqe] at hcell hS0 hcc hql ⊢
            have hN := Lib.hid (show (P ++ [(t, pos)]) ++ pairT ((bts s).drop (pos + 1)) (pos + 1) st0 = R by rw [← hLo, pairT, if_neg (by decide)]; simp)
            have hst1 := Lib.hid (show (st0.length : Int) = endT 0 ((bts s).take (pos + 1)) by rw [hetH.out, h110]; simp)
            have hlt1 := Lib.hid (show ∀ x ∈ st0, x < pos + 1 by
              intro x hx
              have := hlt.out x (by simp [hx])
              omega)
            have hqc : (q : Int) ≤ c := by omega
            clear hy hd hLo het hend2 hnl hns hqe hSn hoS
            go_wp2_with (first
              | (at_builtin
                 refine wpList_pushP rfl _ _ rfl rfl (hPn.none_ (World.grownBy_alloc wn (.cells #[.int .i64 (t : Nat), .int .i64 (pos : Nat)] 37) none)) wn.heap.size 1 t pos rfl (Blk.new wn _ _) (by omega) (by have := hben.size; show _ ≤ (wn.heap.push _).size; simp; omega) ?_
                 intro v6 w6 ho6 hgr6
                 have hP1 := hPn.none_ (World.grownBy_alloc wn (.cells #[.int .i64 (t : Nat), .int .i64 (pos : Nat)] 37) none)
                 have hb6 := (hben.alloc hben.size (.cells #[.int .i64 (t : Nat), .int .i64 (pos : Nat)] 37)).grown hgr6 (by have := hben.size; show _ ≤ (wn.heap.push _).size; simp; omega) (fun g hg => hP1.ge hg)
                 have hit6 := iter_stay (iter_stay hitn (World.grownBy_alloc wn (.cells #[.int .i64 (t : Nat), .int .i64 (pos : Nat)] 37) none) (by simp)) hgr6 (fun e => by
                   obtain ⟨cs, hcs⟩ := hP1.block e.symm
                   have := iter_stay hitn (World.grownBy_alloc wn (.cells #[.int .i64 (t : Nat), .int .i64 (pos : Nat)] 37) none) (by simp)
                   rw [this] at hcs
                   cases hcs)
                 have hS1 := hS0.keep (w' := wn.alloc (.cells #[.int .i64 (t : Nat), .int .i64 (pos : Nat)] 37)) fun g cs hg _ => (World.grownBy_alloc wn (.cells #[.int .i64 (t : Nat), .int .i64 (pos : Nat)] 37) none).block g (heap_lt hg) (by simp)
                 have hS6 := hS1.keep (w' := w6) fun g cs hg _ => hgr6.block g (heap_lt hg) (fun e => by
                   obtain ⟨cs2, hcs2⟩ := hP1.block e.symm
                   rw [hcs2] at hg
                   injection hg with hg
                   injection hg with _ hg
                   exact absurd hg (by decide))))
            go_roundw
            case rel => exact ⟨pos + 1, st0, P ++ [(t, pos)], by omega, hst1, by omega, by simp; omega, hlt1, hN, ho6, hS6, hit6, hb6⟩
            case measure => simp only [World.iterPos, hit, hit6]; omega
        · have hnx := iter_end hit hp
          have hPR := Lib.hid (show P = R by
            have := hL'.out
            rw [List.drop_of_length_le (by rw [bts_len]; omega), pairT, List.append_nil] at this
            exact this)
          rw [hPR.out] at hoP
          go_wp2_with (fail)
          go_ret2
          exact ⟨_, rfl, hoP.rebase hb2.size, hb2.trans (hbe.mono hb2.size)⟩
    · have hL := Lib.hid (show pairL (bts s) = [] by unfold pairL; rw [hn, if_neg (by omega)])
      have hE := Lib.hid (show pairE (bts s) = 14 by unfold pairE; rw [hk, hn]; simp [hq])
      have hqi : (0 : Int) ≤ n := by omega
      rw [hL.out, hE.out]
      clear hk hn h5
      go_enter Tryz.func8, Tryz.ntmps8
      go_wp2_with (first
        | (go_at_call 32; (with_reducible refine (Check_any _ _).mono ?_); rintro e w1 ⟨rfl, hb1⟩; rw [hkH.out])
        | (go_at_call 30; (with_reducible refine (hlk.out _).mono ?_); rintro e w2 ⟨rfl, hb2⟩; replace hb2 := hb1.trans (hb2.mono hb1.size)))
      go_ret2
      exact ⟨_, rfl, OwnP.nil _ _, hb2⟩
  · have hL := Lib.hid (show pairL (bts s) = [] by unfold pairL; rw [hk]; simp [h0])
    have hE := Lib.hid (show pairE (bts s) = k by unfold pairE; rw [hk]; simp [h0])
    have hk0 : (k != 0) = true := by simp [h0]
    rw [hL.out, hE.out]
    clear hk
    go_enter Tryz.func8, Tryz.ntmps8
    go_wp2_with (first
      | (go_at_call 32; (with_reducible refine (Check_any _ _).mono ?_); rintro e w1 ⟨rfl, hb1⟩; rw [hkH.out]))
    go_ret2
    exact ⟨_, rfl, OwnP.nil _ _, hb1⟩
end Go.Proofs.YthbkfhhnhiplkaaGreatDoor.Ti
