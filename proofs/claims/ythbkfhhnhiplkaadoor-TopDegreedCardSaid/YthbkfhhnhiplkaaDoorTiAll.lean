/- The texts TiBase, TiIter, TiStart, TiLacks, TiBallot, TiCount, TiAt in one. -/
import Derived.Test.YthbkfhhnhiplkaaDoorKit
import Derived.Test.YthbkfhhnhiplkaaDoorChecked
import Derived.Test.YthbkfhhnhiplkaaDoorPush
import Derived.Test.YthbkfhhnhiplkaaDoorShelf
import Derived.Lib.OthersKept
import Derived.Laws.Runes
import Derived.Laws.RangeAny
import Derived.Deep.RegionHeld3
import Derived.BigQuiet
import Derived.Laws.MakeOwn
/- Words of bytes; orders of customers: errors, steps, the first one for whom change lacks. -/
namespace Go.Proofs.YthbkfhhnhiplkaaDoor.Ti
open Go.RowKit
abbrev Word := List UInt8
def bts (s : ByteArray) : Word := s.data.toList
theorem bts_len (s : ByteArray) : (bts s).length = s.size := Array.length_toList
theorem bts_inj {s t : ByteArray} (h : bts s = bts t) : s = t := by
  obtain ⟨a⟩ := s
  obtain ⟨b⟩ := t
  exact congrArg ByteArray.mk (Array.toList_inj.1 h)
theorem bts_mk (l : Word) : bts ⟨l.toArray⟩ = l := by simp [bts]
theorem mk_bts (s : ByteArray) : (⟨(bts s).toArray⟩ : ByteArray) = s := bts_inj (bts_mk _)
theorem bts_extract (s : ByteArray) (a b : Nat) : bts (s.extract a b) = ((bts s).take b).drop a := by
  simp [bts, List.drop_take]
theorem bts_append (s t : ByteArray) : bts (s ++ t) = bts s ++ bts t := by simp [bts]
theorem bts_at (s : ByteArray) (k : Nat) (h : k < s.size) : (bts s)[k]? = some s[k] := by
  have h1 : k < s.data.size := h
  show s.data.toList[k]? = some (s.data[k])
  rw [Array.getElem?_toList, Array.getElem?_eq_getElem h1]
/-- the error of an order -/
def okT (l : Word) : Bool := l.all fun b => b == 99 || b == 110
def chkT (l : Word) : Int := if 16 < l.length then 3 else if okT l then 0 else 10
def opT (l : Word) (b : Int) : Int := if chkT l ≠ 0 then chkT l else if 0 ≤ b ∧ b ≤ 20 then 0 else 1
/-- coins after a customer -/
def stp (b : Int) (c : UInt8) : Int := if c = 99 then b + 1 else b - 1
def stepsT (b : Int) : Word → List Int
  | [] => []
  | c :: l => stp b c :: stepsT (stp b c) l
def endT (b : Int) (l : Word) : Int := l.foldl stp b
theorem steps_len (l : Word) : ∀ b, (stepsT b l).length = l.length := by
  induction l with
  | nil => intro b; rfl
  | cons c l ih => intro b; simp [stepsT, ih]
theorem steps_snoc (l : Word) (c : UInt8) : ∀ b, stepsT b (l ++ [c]) = stepsT b l ++ [stp (endT b l) c] := by
  induction l with
  | nil => intro b; rfl
  | cons d l ih => intro b; simp only [List.cons_append, stepsT, ih]; rfl
theorem end_snoc (l : Word) (c : UInt8) (b : Int) : endT b (l ++ [c]) = stp (endT b l) c := by simp [endT]
theorem end_bound (l : Word) : ∀ b, b - l.length ≤ endT b l ∧ endT b l ≤ b + l.length := by
  induction l with
  | nil => intro b; simp [endT]
  | cons c l ih =>
    intro b
    have := ih (stp b c)
    have e : endT b (c :: l) = endT (stp b c) l := rfl
    rw [e]
    have h : b - 1 ≤ stp b c ∧ stp b c ≤ b + 1 := by unfold stp; split <;> omega
    simp only [List.length_cons]
    omega
theorem steps_get (l : Word) : ∀ (b : Int) (i : Nat), i < l.length → (stepsT b l)[i]? = some (endT b (l.take (i + 1))) := by
  induction l with
  | nil => intro b i h; simp at h
  | cons c l ih =>
    intro b i h
    cases i with
    | zero => rfl
    | succ i =>
      rw [stepsT, List.getElem?_cons_succ, ih _ i (by simpa using h)]
      rfl
theorem steps_bound {l : Word} {b x : Int} (h : x ∈ stepsT b l) : b - l.length ≤ x ∧ x ≤ b + l.length := by
  obtain ⟨i, hi, he⟩ := List.getElem_of_mem h
  have hi' : i < l.length := by rwa [steps_len] at hi
  have h1 := steps_get l b i hi'
  rw [List.getElem?_eq_getElem hi, he] at h1
  injection h1 with h1
  have := end_bound (l.take (i + 1)) b
  rw [← h1, List.length_take] at this
  omega
/-- the first customer for whom change lacks, or -1 -/
def negI (xs : List Int) (i : Nat) : Int := match xs with
  | [] => -1
  | x :: r => if x < 0 then i else negI r (i + 1)
def lacksT (l : Word) (b : Int) : Int := negI (stepsT b l) 0
theorem negI_bound (xs : List Int) : ∀ i, negI xs i = -1 ∨ ((i : Int) ≤ negI xs i ∧ negI xs i < i + xs.length) := by
  induction xs with
  | nil => intro i; left; rfl
  | cons x r ih =>
    intro i
    rw [negI]
    split
    · right; simp only [List.length_cons]; omega
    · rcases ih (i + 1) with h | h
      · left; exact h
      · right; simp only [List.length_cons]; omega
theorem okT_at {l : Word} (h : okT l = true) {c : UInt8} (hc : c ∈ l) : c = 99 ∨ c = 110 := by
  have := (List.all_eq_true.1 h) c hc
  simpa using this
theorem chkT_zero {l : Word} (h : chkT l = 0) : l.length ≤ 16 ∧ okT l = true := by
  unfold chkT at h
  split at h
  · omega
  · split at h
    · exact ⟨by omega, by assumption⟩
    · omega
theorem opT_zero {l : Word} {b : Int} (h : opT l b = 0) : chkT l = 0 ∧ 0 ≤ b ∧ b ≤ 20 := by
  unfold opT at h
  split at h
  · contradiction
  · rename_i h0
    split at h
    · rename_i h1; exact ⟨by simpa using h0, h1⟩
    · omega
end Go.Proofs.YthbkfhhnhiplkaaDoor.Ti
/- A range over a string of ASCII letters; an own list that is returned. -/
namespace Go.Proofs.YthbkfhhnhiplkaaDoor.Ti
open Go.RowKit
theorem iter_next {wr : World} {k pos : Nat} {s : ByteArray} {y : UInt8} (hit : wr.heap[k]? = some (.stringIter s pos)) (hp : pos < s.size) (hy : (bts s)[pos]? = some y) (h128 : y.toNat < 128) :
    ∃ wn : World, (∀ ty, (Instr.next (.pointer (some ⟨k, 0, none⟩)) true ty).run Tryd.prog wr = .ok (.tuple #[.bool true, .int .i64 pos, .int .i32 y.toNat]) wn) ∧ wn.heap[k]? = some (.stringIter s (pos + 1)) ∧ wr.grownBy wn (some k) := by
  have hyb : s[pos]'hp = y := by
    have := bts_at s pos hp
    rw [hy] at this
    injection this with this
    exact this.symm
  refine ⟨wr.iterAt k s (pos + 1), fun ty => ?_, Lib.iterAt_heap wr k s pos (pos + 1) hit, rfl, rfl, rfl, ?_, fun g _ hne => Lib.iterAt_other wr k g s (pos + 1) (fun e => hne (by rw [e]))⟩
  · rw [Lib.run_next_ascii_at wr k s pos ty hit hp (by rw [hyb]; omega), hyb]
  · have := Lib.iterAt_size wr k s (pos + 1)
    omega
theorem iter_cn {wr : World} {k pos : Nat} {s : ByteArray} (hok : okT (bts s) = true) (hit : wr.heap[k]? = some (.stringIter s pos)) (hp : pos < s.size) :
    ∃ y wn, (bts s)[pos]? = some y ∧ wn.heap[k]? = some (.stringIter s (pos + 1)) ∧ wr.grownBy wn (some k) ∧
      ((y = 99 ∧ ∀ ty, (Instr.next (.pointer (some ⟨k, 0, none⟩)) true ty).run Tryd.prog wr = .ok (.tuple #[.bool true, .int .i64 pos, .int .i32 99]) wn) ∨
       (y = 110 ∧ ∀ ty, (Instr.next (.pointer (some ⟨k, 0, none⟩)) true ty).run Tryd.prog wr = .ok (.tuple #[.bool true, .int .i64 pos, .int .i32 110]) wn)) := by
  obtain ⟨y, hy⟩ : ∃ y, (bts s)[pos]? = some y := ⟨_, bts_at s pos hp⟩
  have hyy := okT_at hok (List.mem_of_getElem? hy)
  obtain ⟨wn, h1, h2, h3⟩ := iter_next hit hp hy (by rcases hyy with rfl | rfl <;> decide)
  refine ⟨y, wn, hy, h2, h3, ?_⟩
  rcases hyy with rfl | rfl
  · exact Or.inl ⟨rfl, h1⟩
  · exact Or.inr ⟨rfl, h1⟩
theorem iter_end {wr : World} {k pos : Nat} {s : ByteArray} (hit : wr.heap[k]? = some (.stringIter s pos)) (hp : ¬ pos < s.size) : ∀ ty, (Instr.next (.pointer (some ⟨k, 0, none⟩)) true ty).run Tryd.prog wr = .ok (.tuple #[.bool false]) wr :=
  fun ty => Lib.run_next_end_at wr k s pos ty hit hp
theorem heap_lt {w : World} {k : Nat} {o : Obj} (h : w.heap[k]? = some o) : k < w.heap.size := by
  rcases Nat.lt_or_ge k w.heap.size with h1 | h1
  · exact h1
  · rw [Array.getElem?_eq_none h1] at h; cases h
/-- an iterator stays where a row grows -/
theorem iter_stay {w w' : World} {k : Nat} {o : Obj} {row : Option Nat} (h : w.heap[k]? = some o) (hg : w.grownBy w' row) (hne : some k ≠ row) : w'.heap[k]? = some o := (hg.block k (heap_lt h) hne).trans h
theorem _root_.Go.Proofs.YthbkfhhnhiplkaaDoor.OwnI.ne_iter {w : World} {base k pos : Nat} {v : Value} {xs : List Int} {s : ByteArray} (h : OwnI w base v xs) (hit : w.heap[k]? = some (.stringIter s pos)) : v.ownBlock ≠ some k := by
  rcases h.2 with ⟨rfl, _⟩ | ⟨g, cap, cur, rfl, _, hg, _⟩
  · simp [Value.ownBlock]
  · intro e
    obtain rfl : g = k := by simpa [Value.ownBlock] using e
    rw [hit] at hg
    cases hg
theorem make_own (n : Nat) (hn : n ≤ 1000000) (w : World) : ∃ w', (Instr.makeSlice 25 (.int .i64 0) (.int .i64 (n : Int))).run Tryd.prog w = .ok (.slice (some ⟨w.heap.size, 0, none⟩) 0 n) w' ∧ OwnI w' w.heap.size (.slice (some ⟨w.heap.size, 0, none⟩) 0 n) [] ∧ w.grownBy w' none := by
  obtain ⟨i0, hi0, hz0, hz1, hz2⟩ := info_parts infoInt
  exact run_makeSlice_owned w w.heap.size 25 3 i0 (.int .i64 0) 1 Tryd.underlying25 hi0 hz0 hz1 .i64 .i64 n (by omega) (by rw [hz2]; omega) (by simp only [maxLen]; omega) (Nat.le_refl _)
/-- an own list of ints is returned -/
def RetI (xs : List Int) (w : World) (e : Ending) (w' : World) : Prop := ∃ v, e = .returned v ∧ OwnI w' w.heap.size v xs ∧ Below w.heap.size w w'
/-- an own list of ints, and an error -/
def RetIE (xs : List Int) (err : Int) (w : World) (e : Ending) (w' : World) : Prop := ∃ v, e = .returned (.tuple #[v, .int .i64 err]) ∧ OwnI w' w.heap.size v xs ∧ Below w.heap.size w w'
theorem _root_.Go.Proofs.YthbkfhhnhiplkaaDoor.OwnI.rebase {w : World} {b b' : Nat} {v : Value} {xs : List Int} (h : OwnI w b v xs) (hb : b' ≤ b) : OwnI w b' v xs := by
  refine ⟨h.1, ?_⟩
  rcases h.2 with h0 | ⟨g, cap, cur, rfl, hg, r⟩
  · exact .inl h0
  · exact .inr ⟨g, cap, cur, rfl, Nat.le_trans hb hg, r⟩
theorem _root_.Go.Proofs.YthbkfhhnhiplkaaDoor.OwnI.full {w : World} {base : Nat} {v : Value} {xs : List Int} (h : OwnI w base v xs) (hne : 0 < xs.length) : ∃ g c, v = .slice (some ⟨g, 0, none⟩) xs.length c ∧ xs.length ≤ c ∧ base ≤ g ∧ g < w.heap.size ∧ ∀ j, j < xs.length → w.cell? ⟨g, j, none⟩ = some (.int .i64 (xs.getD j 0)) := by
  have hr := h.reads
  rcases h.2 with ⟨_, h0⟩ | ⟨g, cap, cur, rfl, hb, hg, hc, _⟩
  · omega
  · obtain ⟨A, c, he, hr⟩ := hr
    obtain ⟨rfl, rfl⟩ : some ⟨g, 0, none⟩ = A ∧ cap = c := by injection he with h1 _ h2; exact ⟨h1, h2⟩
    refine ⟨g, cap, rfl, hc, hb, h.lt rfl, fun j hj => ?_⟩
    obtain ⟨ad, u, hA, _, hu, hcell⟩ := Reads.at_ hr hj
    obtain rfl : (⟨g, 0, none⟩ : Addr) = ad := by injection hA
    rw [ints_get xs j hj] at hu
    injection hu with hu
    rw [hu, ← hcell]
    congr 1
    unfold Addr.add
    split <;> simp_all
theorem below_iter {B : Nat} {w : World} (s : ByteArray) (hB : B ≤ w.heap.size) : Below B w (w.alloc (.stringIter s 0)) := (Below.refl _ _).alloc hB _
end Go.Proofs.YthbkfhhnhiplkaaDoor.Ti
/- Check, opened, between; steps; the first customer for whom change lacks. -/
namespace Go.Proofs.YthbkfhhnhiplkaaDoor.Ti
open Go.RowKit
theorem drop_first {p : UInt8 → Bool} : ∀ {l : Word} {a : UInt8} {r : Word}, l.dropWhile p = a :: r → p a = false := by
  intro l
  induction l with
  | nil => intro a r h; cases h
  | cons b l ih =>
    intro a r h
    rw [List.dropWhile_cons] at h
    split at h
    · exact ih h
    · rename_i hb
      injection h with h1 h2
      rw [← h1]; simpa using hb
theorem trim_ok (l : Word) : (Lib.trimS l [99, 110]).isEmpty = okT l := by
  have hall : ∀ m : Word, (m.dropWhile fun b => List.contains [99, 110] b).isEmpty = m.all fun b => List.contains [99, 110] b := by
    intro m
    induction m with
    | nil => rfl
    | cons b m ih =>
      rw [List.dropWhile_cons, List.all_cons]
      by_cases hb : List.contains [99, 110] b = true
      · rw [if_pos hb, ih, hb]; rfl
      · rw [if_neg hb]
        simp only [Bool.not_eq_true] at hb
        rw [hb]; rfl
  have hok : okT l = l.all fun b => List.contains [99, 110] b := by
    unfold okT
    congr 1
    funext b
    rw [Bool.eq_iff_iff]
    simp
  unfold Lib.trimS Lib.trimLeftS Lib.trimRightS
  rw [hall, hok]
  cases hd : l.reverse.dropWhile fun b => List.contains [99, 110] b with
  | nil =>
    have := hall l.reverse
    rw [hd, List.all_reverse] at this
    rw [← this]; rfl
  | cons a r =>
    have ha := drop_first hd
    have := hall l.reverse
    rw [hd, List.all_reverse] at this
    rw [← this, List.all_reverse, List.all_cons, ha]
    rfl
set_option maxRecDepth 100000 in
set_option maxHeartbeats 4000000 in
theorem Check_any (s : ByteArray) (w : World) : Calls Tryd.prog 41 #[.string s] w fun e w' => e = .returned (.int .i64 (chkT (bts s))) ∧ Below w.heap.size w w' := by
  by_cases h16 : 16 < s.size
  · have hR := Lib.hid (show chkT (bts s) = 3 by unfold chkT; rw [bts_len, if_pos h16])
    have hi : (16 : Int) < s.size := by omega
    clear h16
    go_enter Tryd.func41, Tryd.ntmps41
    go_wp2_with (fail)
    go_ret
    exact ⟨by rw [hR.out]; rfl, Below.refl _ _⟩
  · have hi : ¬ (16 : Int) < s.size := by omega
    have hR := Lib.hid (show chkT (bts s) = if okT (bts s) then 0 else 10 by unfold chkT; rw [bts_len, if_neg h16])
    have htr := Lib.hid (fun w' => Tryd.strings_Trim s ⟨#[99, 110]⟩ w' (by omega) (by decide) (ascii_of_all (by decide)))
    obtain ⟨t, ht⟩ : ∃ t : ByteArray, (⟨(Lib.trimS s.data.toList (⟨#[99, 110]⟩ : ByteArray).data.toList).toArray⟩ : ByteArray) = t := ⟨_, rfl⟩
    have hte : t.toList.isEmpty = okT (bts s) := by
      rw [← ht, ByteArray.toList_eq, ← trim_ok]
      rfl
    rw [ht] at htr
    clear ht h16
    cases hq : okT (bts s) with
    | true =>
      rw [hq] at hte hR
      go_enter Tryd.func41, Tryd.ntmps41
      go_wp2_with (first
        | (go_at_call 50; (with_reducible refine (htr.out _).mono ?_); rintro e w1 ⟨rfl, hb1⟩))
      go_ret
      exact ⟨by rw [hR.out]; rfl, hb1⟩
    | false =>
      rw [hq] at hte hR
      go_enter Tryd.func41, Tryd.ntmps41
      go_wp2_with (first
        | (go_at_call 50; (with_reducible refine (htr.out _).mono ?_); rintro e w1 ⟨rfl, hb1⟩))
      go_ret
      exact ⟨by rw [hR.out]; rfl, hb1⟩
set_option maxRecDepth 100000 in
set_option maxHeartbeats 1000000 in
theorem between_any (a b c : Int) (w : World) : Calls Tryd.prog 26 #[.int .i64 a, .int .i64 b, .int .i64 c] w fun e w' => e = .returned (.bool (decide (a ≤ b ∧ b ≤ c))) ∧ w' = w := by
  by_cases h1 : a ≤ b
  · by_cases h2 : b ≤ c
    · have hR := Lib.hid (show decide (a ≤ b ∧ b ≤ c) = true by simp [h1, h2])
      go_enter Tryd.func26, Tryd.ntmps26
      go_wp2_with (fail)
      go_ret
      exact ⟨by first | rfl | (rw [hR.out]; rfl), rfl⟩
    · have hR := Lib.hid (show decide (a ≤ b ∧ b ≤ c) = false by simp [h2])
      have h3 : decide (b ≤ c) = false := by simp [h2]
      go_enter Tryd.func26, Tryd.ntmps26
      go_wp2_with (fail)
      go_ret
      exact ⟨by first | rfl | (rw [hR.out]; rfl), rfl⟩
  · have hR := Lib.hid (show decide (a ≤ b ∧ b ≤ c) = false by simp [h1])
    have h3 : decide (a ≤ b) = false := by simp [h1]
    go_enter Tryd.func26, Tryd.ntmps26
    go_wp2_with (fail)
    go_ret
    exact ⟨by first | rfl | (rw [hR.out]; rfl), rfl⟩
set_option maxRecDepth 100000 in
set_option maxHeartbeats 1000000 in
theorem opened_any (s : ByteArray) (b : Int) (w : World) : Calls Tryd.prog 33 #[.string s, .int .i64 b] w fun e w' => e = .returned (.int .i64 (opT (bts s) b)) ∧ Below w.heap.size w w' := by
  obtain ⟨k, hk⟩ : ∃ k, chkT (bts s) = k := ⟨_, rfl⟩
  have hkH := Lib.hid hk
  by_cases h0 : k = 0
  · subst h0
    obtain ⟨q, hq⟩ : ∃ q, decide ((0 : Int) ≤ b ∧ b ≤ 20) = q := ⟨_, rfl⟩
    have hqH := Lib.hid hq
    have hR := Lib.hid (show opT (bts s) b = if q then 0 else 1 by unfold opT; rw [if_neg (by simp [hk]), ← hq]; simp only [decide_eq_true_eq])
    clear hk hq
    cases q with
    | true =>
      go_enter Tryd.func33, Tryd.ntmps33
      go_wp2_with (first
        | (go_at_call 41; (with_reducible refine (Check_any _ _).mono ?_); rintro e w1 ⟨rfl, hb1⟩; rw [hkH.out])
        | (go_at_call 26; (with_reducible refine (between_any _ _ _ _).mono ?_); rintro e w2 ⟨rfl, rfl⟩; rw [hqH.out]))
      go_ret
      exact ⟨by rw [hR.out]; rfl, hb1⟩
    | false =>
      go_enter Tryd.func33, Tryd.ntmps33
      go_wp2_with (first
        | (go_at_call 41; (with_reducible refine (Check_any _ _).mono ?_); rintro e w1 ⟨rfl, hb1⟩; rw [hkH.out])
        | (go_at_call 26; (with_reducible refine (between_any _ _ _ _).mono ?_); rintro e w2 ⟨rfl, rfl⟩; rw [hqH.out]))
      go_ret
      exact ⟨by rw [hR.out]; rfl, hb1⟩
  · have hR := Lib.hid (show opT (bts s) b = k by unfold opT; rw [hk, if_pos h0])
    have hk0 : (k == 0) = false := by simp [h0]
    clear hk
    go_enter Tryd.func33, Tryd.ntmps33
    go_wp2_with (first
      | (go_at_call 41; (with_reducible refine (Check_any _ _).mono ?_); rintro e w1 ⟨rfl, hb1⟩; rw [hkH.out]))
    go_ret
    exact ⟨by rw [hR.out]; rfl, hb1⟩
set_option maxRecDepth 100000 in
set_option maxHeartbeats 4000000 in
theorem steps_any (s : ByteArray) (b : Int) (hs : s.size ≤ 1000) (hok : okT (bts s) = true) (hb : -1000000 ≤ b ∧ b ≤ 1000000) (w : World) : Calls Tryd.prog 43 #[.string s, .int .i64 b] w (RetI (stepsT b (bts s)) w) := by
  have hokH := Lib.hid hok
  obtain ⟨wm, hmk, hom, hgm⟩ := make_own s.size (by omega) w
  have hbm := below_none (Below.refl w.heap.size w) hgm (Nat.le_refl _)
  clear hok hgm
  go_enter Tryd.func43, Tryd.ntmps43
  go_wp2_with (fail)
  clear hmk
  go_loopw [1, 5] (fun v1 o wr => ∃ pos : Nat, pos ≤ s.size ∧ v1 = .int .i64 (endT b ((bts s).take pos)) ∧ OwnI wr w.heap.size o (stepsT b ((bts s).take pos)) ∧ wr.heap[wm.heap.size]? = some (.stringIter s pos) ∧ Below w.heap.size w wr) (fun _ _ wr => s.size - wr.iterPos wm.heap.size)
  case atStart => exact ⟨0, by omega, rfl, hom.none_ (World.grownBy_alloc wm _ none), by first | exact World.iter_heap wm s 0 | simp, hbm.alloc hbm.size _⟩
  case round =>
    obtain ⟨pos, hpos, rfl, ho, hit, hbe⟩ := hrel
    by_cases hp : pos < s.size
    · obtain ⟨y, wn, hy, hitn, hgn, hyy⟩ := iter_cn hokH.out hit hp
      have hben := below_some hbe hgn hbe.size (by have := hbm.size; omega)
      have hon := ho.some_ hgn (ho.ne_iter hit)
      have hbd := end_bound ((bts s).take pos) b
      have hpl : (stepsT b ((bts s).take pos)).length ≤ 1000000000 := by rw [steps_len, List.length_take, bts_len]; omega
      rw [List.length_take, bts_len] at hbd
      rcases hyy with ⟨rfl, hnx⟩ | ⟨rfl, hnx⟩
      · have he : endT b ((bts s).take (pos + 1)) = endT b ((bts s).take pos) + 1 := by rw [List.take_add_one, hy, Option.toList_some, end_snoc]; rfl
        have heH := Lib.hid he
        have hst := Lib.hid (show stepsT b ((bts s).take (pos + 1)) = stepsT b ((bts s).take pos) ++ [endT b ((bts s).take pos) + 1] by rw [List.take_add_one, hy, Option.toList_some, steps_snoc]; rfl)
        obtain ⟨E, hE⟩ : ∃ E, endT b ((bts s).take pos) = E := ⟨_, rfl⟩
        obtain ⟨P, hP⟩ : ∃ P, stepsT b ((bts s).take pos) = P := ⟨_, rfl⟩
        rw [hE] at hbd heH hst ⊢
        rw [hP] at hpl hst hon
        clear hE hP hy he
        obtain ⟨F, hF⟩ : ∃ F, E + 1 = F := ⟨_, rfl⟩
        rw [hF] at hst heH
        go_wp2_with (first
          | (at_builtin
             refine wpList_push rfl _ _ rfl rfl (hon.none_ (World.grownBy_alloc wn _ none)) wn.heap.size 1 F rfl (Blk.new wn _ _) hpl (by have := hben.size; show _ ≤ (wn.heap.push _).size; simp; omega) ?_
             intro g6 cap6 w6 ho6 hgr6 _ _
             have hb6 := (hben.alloc hben.size (.cells #[.int .i64 F] 3)).grown hgr6 (by have := hben.size; show _ ≤ (wn.heap.push _).size; simp; omega) (fun g hg => hon.ge hg)
             have hit6 := iter_stay (iter_stay hitn (World.grownBy_alloc wn (.cells #[.int .i64 F] 3) none) (by simp)) hgr6 (fun e => hon.ne_iter hitn e.symm)))
        go_roundw
        case rel => exact ⟨pos + 1, by omega, by rw [heH.out], by rw [hst.out]; simpa [OwnI] using ho6, hit6, hb6⟩
        case measure => simp only [World.iterPos, hit, hit6]; omega
      · have he : endT b ((bts s).take (pos + 1)) = endT b ((bts s).take pos) - 1 := by rw [List.take_add_one, hy, Option.toList_some, end_snoc]; rfl
        have heH := Lib.hid he
        have hst := Lib.hid (show stepsT b ((bts s).take (pos + 1)) = stepsT b ((bts s).take pos) ++ [endT b ((bts s).take pos) - 1] by rw [List.take_add_one, hy, Option.toList_some, steps_snoc]; rfl)
        obtain ⟨E, hE⟩ : ∃ E, endT b ((bts s).take pos) = E := ⟨_, rfl⟩
        obtain ⟨P, hP⟩ : ∃ P, stepsT b ((bts s).take pos) = P := ⟨_, rfl⟩
        rw [hE] at hbd heH hst ⊢
        rw [hP] at hpl hst hon
        clear hE hP hy he
        obtain ⟨F, hF⟩ : ∃ F, E - 1 = F := ⟨_, rfl⟩
        rw [hF] at hst heH
        go_wp2_with (first
          | (at_builtin
             refine wpList_push rfl _ _ rfl rfl (hon.none_ (World.grownBy_alloc wn _ none)) wn.heap.size 1 F rfl (Blk.new wn _ _) hpl (by have := hben.size; show _ ≤ (wn.heap.push _).size; simp; omega) ?_
             intro g6 cap6 w6 ho6 hgr6 _ _
             have hb6 := (hben.alloc hben.size (.cells #[.int .i64 F] 3)).grown hgr6 (by have := hben.size; show _ ≤ (wn.heap.push _).size; simp; omega) (fun g hg => hon.ge hg)
             have hit6 := iter_stay (iter_stay hitn (World.grownBy_alloc wn (.cells #[.int .i64 F] 3) none) (by simp)) hgr6 (fun e => hon.ne_iter hitn e.symm)))
        go_roundw
        case rel => exact ⟨pos + 1, by omega, by rw [heH.out], by rw [hst.out]; simpa [OwnI] using ho6, hit6, hb6⟩
        case measure => simp only [World.iterPos, hit, hit6]; omega
    · have hnx := iter_end hit hp
      rw [List.take_of_length_le (by rw [bts_len]; omega)] at ho
      go_wp2_with (fail)
      go_ret
      exact ⟨_, rfl, ho, hbe⟩
end Go.Proofs.YthbkfhhnhiplkaaDoor.Ti
/- The first customer for whom change lacks; Coins, Lacks, Needs. -/
namespace Go.Proofs.YthbkfhhnhiplkaaDoor.Ti
open Go.RowKit
set_option maxRecDepth 100000 in
set_option maxHeartbeats 1000000 in
theorem neg_any (n : Int) (w : World) : Calls Tryd.prog 44 #[.int .i64 n] w fun e w' => e = .returned (.bool (decide (n < 0))) ∧ w' = w := by
  go_enter Tryd.func44, Tryd.ntmps44
  go_wp2_with (fail)
  go_ret
  exact ⟨rfl, rfl⟩
theorem negI_step {xs : List Int} {i : Nat} {x : Int} (h : xs[i]? = some x) : negI (xs.drop i) i = if x < 0 then (i : Int) else negI (xs.drop (i + 1)) (i + 1) := by
  obtain ⟨hi, rfl⟩ := List.getElem?_eq_some_iff.1 h
  rw [List.drop_eq_getElem_cons hi, negI]
set_option maxRecDepth 100000 in
set_option maxHeartbeats 4000000 in
theorem indexNeg_any (A : Option Addr) (n c : Nat) (xs : List Int) (w : World) (B : Nat) (hr : RInts w B A n xs) (hn6 : n ≤ 1000000) :
    Calls Tryd.prog 42 #[.slice A n c, .func (.func 44) #[] #[]] w fun e w' => e = .returned (.int .i64 (negI xs 0)) ∧ w' = w := by
  have eg := enters_of Tryd.func44 (by kernel_rfl) rfl
  obtain ⟨R, hR⟩ : ∃ R, negI xs 0 = R := ⟨_, rfl⟩
  have hRH := Lib.hid (show negI (xs.drop 0) 0 = R from hR)
  have hlen := Lib.hid hr.len
  rw [hR]
  clear hR
  go_enter Tryd.func42, Tryd.ntmps42
  go_wp2_with (fail)
  go_loopw [8] (fun v wr => ∃ i : Nat, i ≤ n ∧ v = .int .i64 i ∧ Hid (negI (xs.drop i) i = R) ∧ w = wr) (fun v _ => n - (intOf v).toNat)
  case atStart => exact ⟨0, by omega, rfl, hRH, rfl⟩
  case round =>
    obtain ⟨i, hin, rfl, hL, rfl⟩ := hrel
    by_cases hlt : i < n
    · have hlti : (i : Int) < n := by omega
      obtain ⟨ad, u, rfl, hadb, hu, hcell⟩ := Reads.at_ hr hlt
      obtain ⟨x, hx⟩ : ∃ x, xs[i]? = some x := ⟨_, List.getElem?_eq_getElem (by rw [hlen.out]; exact hlt)⟩
      obtain rfl : u = .int .i64 x := by
        rw [ints, List.getElem?_map, hx] at hu
        simpa using hu.symm
      have hst := negI_step hx
      rw [hL.out] at hst
      have hng := Lib.hid (neg_any x w)
      by_cases hq : x < 0
      · have hN := Lib.hid (show R = (i : Int) by rw [hst, if_pos hq])
        have hqH := Lib.hid (show decide (x < 0) = true by simp [hq])
        clear hst hq hu hx
        go_wp2_with (first
          | (with_reducible show Calls _ _ _ _ _; refine hng.out.mono ?_; rintro e w1 ⟨rfl, rfl⟩; rw [hqH.out]))
        go_ret
        exact ⟨by rw [hN.out]; rfl, rfl⟩
      · have hN := Lib.hid (show negI (xs.drop (i + 1)) (i + 1) = R by rw [hst, if_neg hq])
        have hqH := Lib.hid (show decide (x < 0) = false by simp [hq])
        clear hst hq hu hx
        go_wp2_with (first
          | (with_reducible show Calls _ _ _ _ _; refine hng.out.mono ?_; rintro e w1 ⟨rfl, rfl⟩; rw [hqH.out]))
        go_roundw
        case rel =>
          exact ⟨i + 1, by omega, by go_num, hN, by first | rfl | trivial⟩
        case measure => simp only [intOf]; omega
    · have hlti : ¬ (i : Int) < n := by omega
      have hN := Lib.hid (show R = -1 by rw [← hL.out, List.drop_of_length_le (by rw [hlen.out]; omega)]; rfl)
      go_wp2_with (fail)
      go_ret
      exact ⟨by rw [hN.out]; rfl, rfl⟩
set_option maxRecDepth 100000 in
set_option maxHeartbeats 4000000 in
theorem lacks_any (s : ByteArray) (b : Int) (hs : s.size ≤ 1000) (hok : okT (bts s) = true) (hb : -1000000 ≤ b ∧ b ≤ 1000000) (w : World) :
    Calls Tryd.prog 34 #[.string s, .int .i64 b] w fun e w' => e = .returned (.int .i64 (lacksT (bts s) b)) ∧ Below w.heap.size w w' := by
  have hst := Lib.hid (steps_any s b hs hok hb w)
  have hR := Lib.hid (show lacksT (bts s) b = negI (stepsT b (bts s)) 0 from rfl)
  have hsl : (stepsT b (bts s)).length ≤ 1000000 := by rw [steps_len, bts_len]; omega
  clear hok
  go_enter Tryd.func34, Tryd.ntmps34
  go_wp2_with (first
    | (go_at_call 43; (with_reducible refine hst.out.mono ?_); rintro e w1 ⟨v, rfl, ho, hb1⟩
       obtain ⟨A, c, rfl, hr⟩ := ho.reads)
    | (go_at_call 42; (with_reducible refine (indexNeg_any A _ c _ w1 _ hr hsl).mono ?_); rintro e w2 ⟨rfl, rfl⟩))
  go_ret
  exact ⟨by rw [hR.out]; rfl, hb1⟩
/-- what is returned -/
def coinL (l : Word) (b : Int) : List Int := if opT l b = 0 ∧ lacksT l b < 0 then stepsT b l else []
def coinE (l : Word) (b : Int) : Int := if opT l b ≠ 0 then opT l b else if lacksT l b < 0 then 0 else 14
def lackV (l : Word) (b : Int) : Int := if opT l b = 0 ∧ 0 ≤ lacksT l b then lacksT l b else 0
def lackE (l : Word) (b : Int) : Int := if opT l b ≠ 0 then opT l b else if lacksT l b < 0 then 12 else 0
def needV (l : Word) : Int := if chkT l = 0 then -((stepsT 0 l).foldl min 0) else 0
set_option maxRecDepth 100000 in
set_option maxHeartbeats 4000000 in
theorem Lacks_any (s : ByteArray) (b : Int) (w : World) : Calls Tryd.prog 16 #[.string s, .int .i64 b] w fun e w' => e = .returned (.tuple #[.int .i64 (lackV (bts s) b), .int .i64 (lackE (bts s) b)]) ∧ Below w.heap.size w w' := by
  obtain ⟨k, hk⟩ : ∃ k, opT (bts s) b = k := ⟨_, rfl⟩
  have hkH := Lib.hid hk
  by_cases h0 : k = 0
  · subst h0
    obtain ⟨h1, h2, h3⟩ := opT_zero hk
    obtain ⟨h4, h5⟩ := chkT_zero h1
    rw [bts_len] at h4
    obtain ⟨n, hn⟩ : ∃ n, lacksT (bts s) b = n := ⟨_, rfl⟩
    have hlk := Lib.hid (fun w' => lacks_any s b (by omega) h5 (by omega) w')
    rw [hn] at hlk
    by_cases hq : n < 0
    · have hR := Lib.hid (show lackV (bts s) b = 0 ∧ lackE (bts s) b = 12 by unfold lackV lackE; rw [hk, hn]; exact ⟨if_neg (by omega), by simp [hq]⟩)
      clear hk hn h1 h5
      rw [hR.out.1, hR.out.2]
      go_enter Tryd.func16, Tryd.ntmps16
      go_wp2_with (first
        | (go_at_call 33; (with_reducible refine (opened_any _ _ _).mono ?_); rintro e w1 ⟨rfl, hb1⟩; rw [hkH.out])
        | (go_at_call 34; (with_reducible refine (hlk.out _).mono ?_); rintro e w2 ⟨rfl, hb2⟩; replace hb2 := hb1.trans (hb2.mono hb1.size)))
      go_ret2
      exact ⟨rfl, hb2⟩
    · have hR := Lib.hid (show lackV (bts s) b = n ∧ lackE (bts s) b = 0 by unfold lackV lackE; rw [hk, hn]; exact ⟨if_pos ⟨rfl, by omega⟩, by simp [hq]⟩)
      clear hk hn h1 h5
      rw [hR.out.1, hR.out.2]
      go_enter Tryd.func16, Tryd.ntmps16
      go_wp2_with (first
        | (go_at_call 33; (with_reducible refine (opened_any _ _ _).mono ?_); rintro e w1 ⟨rfl, hb1⟩; rw [hkH.out])
        | (go_at_call 34; (with_reducible refine (hlk.out _).mono ?_); rintro e w2 ⟨rfl, hb2⟩; replace hb2 := hb1.trans (hb2.mono hb1.size)))
      go_ret2
      exact ⟨rfl, hb2⟩
  · have hR := Lib.hid (show lackV (bts s) b = 0 ∧ lackE (bts s) b = k by unfold lackV lackE; rw [hk]; simp [h0])
    have hk0 : (k != 0) = true := by simp [h0]
    clear hk
    rw [hR.out.1, hR.out.2]
    go_enter Tryd.func16, Tryd.ntmps16
    go_wp2_with (first
      | (go_at_call 33; (with_reducible refine (opened_any _ _ _).mono ?_); rintro e w1 ⟨rfl, hb1⟩; rw [hkH.out]))
    go_ret2
    exact ⟨rfl, hb1⟩
end Go.Proofs.YthbkfhhnhiplkaaDoor.Ti
/- Plain: how many can be chosen; how many orders are good. -/
namespace Go.Proofs.YthbkfhhnhiplkaaDoor.Ti
/-- Pascal's triangle -/
def ch : Nat → Nat → Nat
  | _, 0 => 1
  | 0, _ + 1 => 0
  | m + 1, k + 1 => ch m k + ch m (k + 1)
theorem ch_zero (m : Nat) : ch m 0 = 1 := by cases m <;> rfl
theorem ch_none : ∀ (m k : Nat), m < k → ch m k = 0 := by
  intro m
  induction m with
  | zero => intro k h; cases k with
    | zero => omega
    | succ k => rfl
  | succ m ih => intro k h; cases k with
    | zero => omega
    | succ k => rw [ch, ih k (by omega), ih (k + 1) (by omega)]
theorem ch_self (m : Nat) : ch m m = 1 := by
  induction m with
  | zero => rfl
  | succ m ih => rw [ch, ih, ch_none m (m + 1) (by omega)]
theorem ch_step : ∀ (m k : Nat), ch m (k + 1) * (k + 1) = ch m k * (m - k) := by
  intro m
  induction m with
  | zero => intro k; rw [ch_none 0 (k + 1) (by omega)]; simp
  | succ m ih =>
    intro k
    cases k with
    | zero =>
      have := ih 0
      rw [ch_zero] at this ⊢
      rw [show ch (m + 1) (0 + 1) = ch m 0 + ch m (0 + 1) from rfl, ch_zero]
      omega
    | succ k =>
      have h1 := ih k
      have h2 := ih (k + 1)
      rw [ch, ch, Nat.add_mul, Nat.add_mul, h2, show m + 1 - (k + 1) = m - k by omega, ← h1, ← Nat.mul_add]
      rcases Nat.lt_or_ge m (k + 1) with hlt | hge
      · rw [ch_none m (k + 1) hlt]; simp
      · rw [← Nat.mul_add]
        congr 1
        omega
theorem ch_le : ∀ (m k : Nat), ch m k ≤ 2 ^ m := by
  intro m
  induction m with
  | zero => intro k; cases k <;> simp [ch]
  | succ m ih =>
    intro k
    cases k with
    | zero => rw [ch_zero]; exact Nat.one_le_two_pow
    | succ k =>
      have h1 := ih k
      have h2 := ih (k + 1)
      rw [ch, Nat.pow_succ]
      omega
/-- a step of the program's choose -/
theorem ch_div {m i : Nat} : ((ch m i : Nat) : Int) * ((m : Int) - i) / ((i : Int) + 1) = (ch m (i + 1) : Nat) := by
  rcases Nat.lt_or_ge m i with h | h
  · rw [ch_none m i h, ch_none m (i + 1) (by omega)]; simp
  · have := ch_step m i
    have e : ((ch m i : Nat) : Int) * ((m : Int) - i) = ((ch m (i + 1) : Nat) : Int) * ((i : Int) + 1) := by
      have h2 : ((m : Int) - i) = ((m - i : Nat) : Int) := by omega
      rw [h2, show ((i : Int) + 1) = ((i + 1 : Nat) : Int) by omega, ← Int.natCast_mul, ← Int.natCast_mul, this]
    rw [e, Int.mul_ediv_cancel _ (by omega)]
def chI (m : Nat) (n : Int) : Int := if n < 0 then 0 else (ch m n.toNat : Nat)
/-- the number of good orders, as the program counts -/
def balT (c n b : Int) : Int := if c < 0 ∨ n < 0 ∨ c + b < n then 0 else chI (c + n).toNat n - chI (c + n).toNat (n - b - 1)
/-- the number of good orders: the first customer pays with a coin, or with a note -/
def gdN : Nat → Nat → Nat → Nat → Nat
  | 0, _, _, _ => 1
  | s + 1, c, n, b => (if 0 < c then gdN s (c - 1) n (b + 1) else 0) + (if 0 < n ∧ 0 < b then gdN s c (n - 1) (b - 1) else 0)
theorem gd_none : ∀ (s c n b : Nat), s = c + n → c + b < n → gdN s c n b = 0 := by
  intro s
  induction s with
  | zero => intro c n b h1 h2; omega
  | succ s ih =>
    intro c n b h1 h2
    rw [gdN]
    have e1 : (if 0 < c then gdN s (c - 1) n (b + 1) else 0) = 0 := by
      split
      · exact ih _ _ _ (by omega) (by omega)
      · rfl
    have e2 : (if 0 < n ∧ 0 < b then gdN s c (n - 1) (b - 1) else 0) = 0 := by
      split
      · exact ih _ _ _ (by omega) (by omega)
      · rfl
    rw [e1, e2]
def flN (c n b : Nat) : Int := (ch (c + n) n : Nat) - (if n ≤ b then 0 else (ch (c + n) (n - b - 1) : Nat) : Int)
theorem gd_fl : ∀ (s c n b : Nat), s = c + n → n ≤ c + b → (gdN s c n b : Int) = flN c n b := by
  intro s
  induction s with
  | zero =>
    intro c n b h1 h2
    obtain ⟨rfl, rfl⟩ : c = 0 ∧ n = 0 := by omega
    simp [gdN, flN, ch]
  | succ s ih =>
    intro c n b h1 h2
    rw [gdN]
    cases c with
    | zero =>
      cases n with
      | zero => omega
      | succ n =>
        have hb : 0 < b := by omega
        rw [if_neg (by omega), if_pos ⟨by omega, hb⟩, Nat.zero_add, show n + 1 - 1 = n by omega, ih 0 n (b - 1) (by omega) (by omega)]
        unfold flN
        rw [Nat.zero_add, Nat.zero_add, ch_self, ch_self, if_pos (by omega), if_pos (by omega)]
    | succ c =>
      have hA := ih c n (b + 1) (by omega) (by omega)
      rw [if_pos (by omega)]
      cases n with
      | zero =>
        rw [if_neg (by omega), Nat.add_zero, show c + 1 - 1 = c by omega, hA]
        unfold flN
        rw [ch_zero, ch_zero, if_pos (by omega), if_pos (by omega)]
      | succ n =>
        have e1 : ch (c + 1 + (n + 1)) (n + 1) = ch (c + (n + 1)) n + ch (c + (n + 1)) (n + 1) := by
          rw [show c + 1 + (n + 1) = (c + (n + 1)) + 1 by omega, ch]
        rcases Nat.eq_zero_or_pos b with hb | hb
        · subst hb
          rw [if_neg (by omega), Nat.add_zero, show c + 1 - 1 = c by omega, hA]
          unfold flN
          rw [e1, if_neg (show ¬ n + 1 ≤ 0 by omega), show n + 1 - 0 - 1 = n by omega]
          cases n with
          | zero => rw [if_pos (by omega), ch_zero, ch_zero]; omega
          | succ n =>
            rw [if_neg (by omega), show n + 1 + 1 - (0 + 1) - 1 = n by omega, show c + 1 + (n + 1 + 1) = (c + (n + 1 + 1)) + 1 by omega, ch]
            omega
        · have hB := ih (c + 1) n (b - 1) (by omega) (by omega)
          rw [if_pos ⟨by omega, hb⟩, show c + 1 - 1 = c by omega, show n + 1 - 1 = n by omega]
          rw [Int.natCast_add, hA, hB]
          unfold flN
          rw [e1, show c + 1 + n = c + (n + 1) by omega]
          by_cases h3 : n + 1 ≤ b
          · rw [if_pos (by omega), if_pos (by omega), if_pos h3]; omega
          · rw [if_neg (show ¬ n ≤ b - 1 by omega), if_neg h3, show n - (b - 1) - 1 = n - b by omega, show n + 1 - b - 1 = n - b by omega]
            by_cases h4 : n + 1 ≤ b + 1
            · rw [if_pos h4, show n - b = 0 by omega, ch_zero, ch_zero]; omega
            · rw [if_neg h4, show n + 1 - (b + 1) - 1 = n - b - 1 by omega]
              obtain ⟨d, hd⟩ : ∃ d, n - b = d + 1 := ⟨n - b - 1, by omega⟩
              rw [hd, show c + 1 + (n + 1) = (c + (n + 1)) + 1 by omega, ch, show d + 1 - 1 = d by omega]
              omega
/-- both ways of counting -/
theorem bal_gd (c n b : Nat) : balT (c : Int) (n : Int) (b : Int) = (gdN (c + n) c n b : Nat) := by
  unfold balT
  by_cases h : (c : Int) + b < n
  · rw [if_pos (by omega), gd_none _ c n b rfl (by omega)]; rfl
  · rw [if_neg (by omega), gd_fl _ c n b rfl (by omega)]
    unfold flN chI
    rw [if_neg (by omega), show ((c : Int) + n).toNat = c + n by omega, show ((n : Int)).toNat = n by omega]
    by_cases h2 : n ≤ b
    · rw [if_pos (show (n : Int) - b - 1 < 0 by omega), if_pos h2]
    · rw [if_neg (show ¬ (n : Int) - b - 1 < 0 by omega), if_neg h2, show ((n : Int) - b - 1).toNat = n - b - 1 by omega]
/-- those that begin with a coin, and those that begin with a note -/
theorem gd_step {c n b : Nat} (h : 0 < c + n) : gdN (c + n) c n b = (if 0 < c then gdN (c - 1 + n) (c - 1) n (b + 1) else 0) + (if 0 < n ∧ 0 < b then gdN (c + (n - 1)) c (n - 1) (b - 1) else 0) := by
  obtain ⟨s, hs⟩ : ∃ s, c + n = s + 1 := ⟨c + n - 1, by omega⟩
  rw [hs, gdN]
  congr 1
  · by_cases hc : 0 < c
    · rw [if_pos hc, if_pos hc, show c - 1 + n = s by omega]
    · rw [if_neg hc, if_neg hc]
  · by_cases hc : 0 < n ∧ 0 < b
    · rw [if_pos hc, if_pos hc, show c + (n - 1) = s by omega]
    · rw [if_neg hc, if_neg hc]
theorem bal_bound {m : Nat} (h : m ≤ 16) (k : Int) : 0 ≤ chI m k ∧ chI m k ≤ 65536 := by
  unfold chI
  split
  · omega
  · have h1 := ch_le m k.toNat
    have h2 : 2 ^ m ≤ 2 ^ 16 := Nat.pow_le_pow_right (by omega) h
    have h3 : (2 : Nat) ^ 16 = 65536 := by decide
    omega
end Go.Proofs.YthbkfhhnhiplkaaDoor.Ti
/- choose, ballots, counted, Count, First. -/
namespace Go.Proofs.YthbkfhhnhiplkaaDoor.Ti
open Go.RowKit
theorem ch_facts {m i : Nat} (hm : m ≤ 16) : ∃ e : Int, ((ch m i : Nat) : Int) * ((m : Int) - i) = e ∧ -2000000 ≤ e ∧ e ≤ 2000000 ∧ 0 ≤ e ∧ e / ((i : Int) + 1) = (ch m (i + 1) : Nat) ∧ Int.tdiv e ((i : Int) + 1) = (ch m (i + 1) : Nat) := by
  refine ⟨_, rfl, ?_, ?_, ?_, ch_div, ?_⟩
  all_goals
    have h1 := ch_le m i
    have h2 : 2 ^ m ≤ 2 ^ 16 := Nat.pow_le_pow_right (by omega) hm
    have h3 : (2 : Nat) ^ 16 = 65536 := by decide
    have hp : 0 ≤ ((ch m i : Nat) : Int) * ((m : Int) - i) := by
      rcases Nat.lt_or_ge m i with h | h
      · rw [ch_none m i h]; simp
      · exact Int.mul_nonneg (by omega) (by omega)
  · omega
  · rcases Nat.lt_or_ge m i with h | h
    · rw [ch_none m i h]; simp
    · have h4 : ch m i * (m - i) ≤ 65536 * 16 := Nat.mul_le_mul (by omega) (by omega)
      rw [show (m : Int) - i = ((m - i : Nat) : Int) by omega, ← Int.natCast_mul]
      omega
  · exact hp
  · rw [Int.tdiv_eq_ediv_of_nonneg hp]; exact ch_div
set_option maxRecDepth 100000 in
set_option maxHeartbeats 4000000 in
theorem choose_any (m : Nat) (k : Int) (hm : m ≤ 16) (hk : k ≤ 100) (w : World) : Calls Tryd.prog 39 #[.int .i64 m, .int .i64 k] w fun e w' => e = .returned (.int .i64 (chI m k)) ∧ w' = w := by
  by_cases h0 : k < 0
  · have hR := Lib.hid (show chI m k = 0 by unfold chI; rw [if_pos h0])
    go_enter Tryd.func39, Tryd.ntmps39
    go_wp2_with (fail)
    go_ret
    exact ⟨by rw [hR.out]; rfl, rfl⟩
  · obtain ⟨j, rfl⟩ : ∃ j : Nat, k = j := ⟨k.toNat, by omega⟩
    have hR := Lib.hid (show chI m (j : Int) = (ch m j : Nat) by unfold chI; rw [if_neg h0]; simp)
    have hji : (j : Int) ≤ 100 := hk
    have hmi : (m : Int) ≤ 16 := by omega
    go_enter Tryd.func39, Tryd.ntmps39
    go_wp2_with (fail)
    go_loopw [5, 10] (fun o v wr => ∃ i : Nat, i ≤ j ∧ v = .int .i64 i ∧ o = .int .i64 (ch m i : Nat) ∧ w = wr) (fun _ v _ => j - (intOf v).toNat)
    case atStart => exact ⟨0, by omega, rfl, by rw [ch_zero]; rfl, rfl⟩
    case round =>
      obtain ⟨i, hi, rfl, rfl, rfl⟩ := hrel
      by_cases hlt : i < j
      · have hlti : (i : Int) < j := by omega
        obtain ⟨e, he, e1, e2, e3, e4, e5⟩ := ch_facts (m := m) (i := i) hm
        obtain ⟨f, hf⟩ : ∃ f : Nat, i + 1 = f := ⟨_, rfl⟩
        have hfi : (i : Int) + 1 = f := by omega
        rw [hf] at e4 e5
        rw [hfi] at e4 e5
        have hf0 : ¬ f = 0 := by omega
        have hf1 : ((f : Int) == 0) = false := by simp; omega
        obtain ⟨d, hd⟩ : ∃ d : Int, (m : Int) - i = d := ⟨_, rfl⟩
        rw [hd] at he
        have hdb : -100 ≤ d ∧ d ≤ 100 := by omega
        obtain ⟨hd1, hd2⟩ := hdb
        obtain ⟨C, hC⟩ : ∃ C, ch m i = C := ⟨_, rfl⟩
        obtain ⟨C2, hC2⟩ : ∃ C, ch m f = C := ⟨_, rfl⟩
        have hC2H := Lib.hid hC2
        have hC2b : (C2 : Int) ≤ 65536 := by
          have h1 := ch_le m f
          have h2 : 2 ^ m ≤ 2 ^ 16 := Nat.pow_le_pow_right (by omega) hm
          have h3 : (2 : Nat) ^ 16 = 65536 := by decide
          omega
        rw [hC] at he ⊢
        rw [hC2] at e4 e5
        clear hC hC2 hf
        go_wp2_with (fail)
        go_roundw
        case rel => exact ⟨f, by omega, by go_num, by rw [hC2H.out], by first | rfl | trivial⟩
        case measure => simp only [intOf]; omega
      · have hlti : ¬ (i : Int) < j := by omega
        obtain rfl : i = j := by omega
        go_wp2_with (fail)
        go_ret
        exact ⟨by rw [hR.out]; rfl, rfl⟩
set_option maxRecDepth 100000 in
set_option maxHeartbeats 4000000 in
theorem ballots_any (c n b : Int) (h1 : -10 ≤ c ∧ c ≤ 16) (h2 : -10 ≤ n ∧ n ≤ 16) (h3 : c + n ≤ 16) (h4 : -30 ≤ b ∧ b ≤ 60) (w : World) : Calls Tryd.prog 27 #[.int .i64 c, .int .i64 n, .int .i64 b] w fun e w' => e = .returned (.int .i64 (balT c n b)) ∧ w' = w := by
  by_cases hc : c < 0
  · have hR := Lib.hid (show balT c n b = 0 by unfold balT; rw [if_pos (Or.inl hc)])
    go_enter Tryd.func27, Tryd.ntmps27
    go_wp2_with (fail)
    go_ret
    exact ⟨by rw [hR.out]; rfl, rfl⟩
  · have hci : decide (c < 0) = false := by simp; omega
    by_cases hn : n < 0
    · have hR := Lib.hid (show balT c n b = 0 by unfold balT; rw [if_pos (Or.inr (Or.inl hn))])
      go_enter Tryd.func27, Tryd.ntmps27
      go_wp2_with (fail)
      go_ret
      exact ⟨by rw [hR.out]; rfl, rfl⟩
    · have hni : decide (n < 0) = false := by simp; omega
      obtain ⟨t, ht⟩ : ∃ t, c + b = t := ⟨_, rfl⟩
      by_cases hcb : t < n
      · have hR := Lib.hid (show balT c n b = 0 by unfold balT; rw [if_pos (Or.inr (Or.inr (by omega)))])
        go_enter Tryd.func27, Tryd.ntmps27
        go_wp2_with (fail)
        go_ret
        exact ⟨by rw [hR.out]; rfl, rfl⟩
      · have hti : decide (t < n) = false := by simp; omega
        obtain ⟨m, hm⟩ : ∃ m : Nat, c + n = m := ⟨(c + n).toNat, by omega⟩
        have hm16 : m ≤ 16 := by omega
        have hR := Lib.hid (show balT c n b = chI m n - chI m (n - b - 1) by unfold balT; rw [if_neg (by omega), hm]; rfl)
        obtain ⟨q, hq⟩ : ∃ q, n - b = q := ⟨_, rfl⟩
        obtain ⟨r, hr⟩ : ∃ r, q - 1 = r := ⟨_, rfl⟩
        rw [hq, hr] at hR
        have hA := Lib.hid (fun w' => choose_any m n hm16 (by omega) w')
        have hB := Lib.hid (fun w' => choose_any m r hm16 (by omega) w')
        obtain ⟨b1, b2⟩ := bal_bound hm16 n
        obtain ⟨b3, b4⟩ := bal_bound hm16 r
        obtain ⟨X, hX⟩ : ∃ X, chI m n = X := ⟨_, rfl⟩
        obtain ⟨Y, hY⟩ : ∃ Y, chI m r = Y := ⟨_, rfl⟩
        rw [hX, hY] at hR
        rw [hX] at hA b1 b2
        rw [hY] at hB b3 b4
        rw [hR.out]
        clear hX hY
        go_enter Tryd.func27, Tryd.ntmps27
        go_wp2_with (first
          | (go_at_call 39; (with_reducible refine (hA.out _).mono ?_); rintro e w1 ⟨rfl, rfl⟩)
          | (go_at_call 39; (with_reducible refine (hB.out _).mono ?_); rintro e w1 ⟨rfl, rfl⟩))
        go_ret
        exact ⟨rfl, rfl⟩
/-- the error of numbers of customers and coins -/
def cntE (c n b : Int) : Int := if c < 0 ∨ n < 0 ∨ 16 < c ∨ 16 < n ∨ 16 < c + n then 1 else if 0 ≤ b ∧ b ≤ 20 then 0 else 1
def cntV (c n b : Int) : Int := if cntE c n b = 0 then balT c n b else 0
theorem cntE_zero {c n b : Int} (h : cntE c n b = 0) : 0 ≤ c ∧ 0 ≤ n ∧ c + n ≤ 16 ∧ 0 ≤ b ∧ b ≤ 20 := by
  unfold cntE at h
  split at h
  · omega
  · split at h
    · omega
    · omega
set_option maxRecDepth 100000 in
set_option maxHeartbeats 4000000 in
theorem counted_any (c n b : Int) (w : World) : Calls Tryd.prog 25 #[.int .i64 c, .int .i64 n, .int .i64 b] w fun e w' => e = .returned (.tuple #[.int .i64 (cntV c n b), .int .i64 (cntE c n b)]) ∧ w' = w := by
  obtain ⟨mn, hmn⟩ : ∃ mn, min c n = mn := ⟨_, rfl⟩
  obtain ⟨mx, hmx⟩ : ∃ mx, max c n = mx := ⟨_, rfl⟩
  by_cases h1 : mn < 0
  · have hE := Lib.hid (show cntE c n b = 1 by unfold cntE; rw [if_pos (by omega)])
    have hV := Lib.hid (show cntV c n b = 0 by unfold cntV; rw [hE.out]; simp)
    rw [hE.out, hV.out]
    go_enter Tryd.func25, Tryd.ntmps25
    go_wp2_with (fail)
    go_ret2
    exact ⟨rfl, rfl⟩
  · have h1i : decide (mn < 0) = false := by simp; omega
    by_cases h2 : 16 < mx
    · have hE := Lib.hid (show cntE c n b = 1 by unfold cntE; rw [if_pos (by omega)])
      have hV := Lib.hid (show cntV c n b = 0 by unfold cntV; rw [hE.out]; simp)
      rw [hE.out, hV.out]
      go_enter Tryd.func25, Tryd.ntmps25
      go_wp2_with (fail)
      go_ret2
      exact ⟨rfl, rfl⟩
    · have h2i : decide (16 < mx) = false := by simp; omega
      have hcn : (0 ≤ c ∧ 0 ≤ n) ∧ (c ≤ 16 ∧ n ≤ 16) := by omega
      obtain ⟨⟨c0, n0⟩, c16, n16⟩ := hcn
      obtain ⟨t, ht⟩ : ∃ t, c + n = t := ⟨_, rfl⟩
      by_cases h3 : 16 < t
      · have hE := Lib.hid (show cntE c n b = 1 by unfold cntE; rw [if_pos (by omega)])
        have hV := Lib.hid (show cntV c n b = 0 by unfold cntV; rw [hE.out]; simp)
        rw [hE.out, hV.out]
        go_enter Tryd.func25, Tryd.ntmps25
        go_wp2_with (fail)
        go_ret2
        exact ⟨rfl, rfl⟩
      · have h3i : decide (16 < t) = false := by simp; omega
        obtain ⟨q, hq⟩ : ∃ q, decide ((0 : Int) ≤ b ∧ b ≤ 20) = q := ⟨_, rfl⟩
        have hqH := Lib.hid hq
        cases q with
        | true =>
          have hb : 0 ≤ b ∧ b ≤ 20 := by simpa using hq
          have hE := Lib.hid (show cntE c n b = 0 by unfold cntE; rw [if_neg (by omega), if_pos hb])
          have hV := Lib.hid (show cntV c n b = balT c n b by unfold cntV; rw [if_pos hE.out])
          have hbl := Lib.hid (fun w' => ballots_any c n b (by omega) (by omega) (by omega) (by omega) w')
          rw [hE.out, hV.out]
          clear hq
          go_enter Tryd.func25, Tryd.ntmps25
          go_wp2_with (first
            | (go_at_call 26; (with_reducible refine (between_any _ _ _ _).mono ?_); rintro e w2 ⟨rfl, rfl⟩; rw [hqH.out])
            | (go_at_call 27; (with_reducible refine (hbl.out _).mono ?_); rintro e w2 ⟨rfl, rfl⟩))
          go_ret2
          exact ⟨rfl, rfl⟩
        | false =>
          have hb : ¬ (0 ≤ b ∧ b ≤ 20) := by simpa using hq
          have hE := Lib.hid (show cntE c n b = 1 by unfold cntE; rw [if_neg (by omega), if_neg hb])
          have hV := Lib.hid (show cntV c n b = 0 by unfold cntV; rw [hE.out]; simp)
          rw [hE.out, hV.out]
          clear hq
          go_enter Tryd.func25, Tryd.ntmps25
          go_wp2_with (first
            | (go_at_call 26; (with_reducible refine (between_any _ _ _ _).mono ?_); rintro e w2 ⟨rfl, rfl⟩; rw [hqH.out]))
          go_ret2
          exact ⟨rfl, rfl⟩
set_option maxRecDepth 100000 in
set_option maxHeartbeats 1000000 in
theorem Count_any (c n b : Int) (w : World) : Calls Tryd.prog 11 #[.int .i64 c, .int .i64 n, .int .i64 b] w fun e w' => e = .returned (.tuple #[.int .i64 (cntV c n b), .int .i64 (cntE c n b)]) ∧ w' = w := by
  go_enter Tryd.func11, Tryd.ntmps11
  go_wp2_with (first
    | (go_at_call 25; (with_reducible refine (counted_any _ _ _ _).mono ?_); rintro e w2 ⟨rfl, rfl⟩))
  go_ret2
  exact ⟨rfl, rfl⟩
/-- what First returns -/
def firE (c n b : Int) : Int := if cntE c n b ≠ 0 then cntE c n b else if balT c n b = 0 then 12 else 0
def firV (c n b : Int) : Word := if firE c n b = 0 then List.replicate c.toNat 99 ++ List.replicate n.toNat 110 else []
theorem rep_one (x : UInt8) (k : Nat) : Lib.repeatL [x] k = List.replicate k x := by
  induction k with
  | zero => rfl
  | succ k ih => rw [Lib.repeatL, ih, List.replicate_succ]; rfl
end Go.Proofs.YthbkfhhnhiplkaaDoor.Ti
/- At: the good order with a number. -/
namespace Go.Proofs.YthbkfhhnhiplkaaDoor.Ti
open Go.RowKit
theorem zero_bld (w : World) : (zeroValue 62).run Tryd.prog w = .ok (.agg #[.pointer none, .slice none 0 0]) w := Tryd.zeroValue62 w
/-- how many go on with a coin -/
def gcN (c n b : Nat) : Nat := if 0 < c then gdN (c - 1 + n) (c - 1) n (b + 1) else 0
/-- the good order with a number -/
def atN : Nat → Nat → Nat → Nat → Nat → Word
  | 0, _, _, _, _ => []
  | s + 1, c, n, b, k => if k < gcN c n b then 99 :: atN s (c - 1) n (b + 1) k else 110 :: atN s c (n - 1) (b - 1) (k - gcN c n b)
theorem bal_gc (c n b : Nat) : balT ((c : Int) - 1) (n : Int) ((b : Int) + 1) = (gcN c n b : Nat) := by
  unfold gcN
  by_cases hc : 0 < c
  · rw [if_pos hc, show (c : Int) - 1 = ((c - 1 : Nat) : Int) by omega, show (b : Int) + 1 = ((b + 1 : Nat) : Int) by omega, bal_gd]
  · rw [if_neg hc]
    unfold balT
    rw [if_pos (by omega)]
    rfl
theorem gc_pos {c n b k : Nat} (h : k < gcN c n b) : 0 < c ∧ k < gdN (c - 1 + n) (c - 1) n (b + 1) := by
  unfold gcN at h
  split at h
  · exact ⟨by assumption, h⟩
  · omega
theorem gc_neg {c n b k : Nat} (h0 : 0 < c + n) (hk : k < gdN (c + n) c n b) (h : ¬ k < gcN c n b) : 0 < n ∧ 0 < b ∧ k - gcN c n b < gdN (c + (n - 1)) c (n - 1) (b - 1) := by
  rw [gd_step h0] at hk
  have e : (if 0 < c then gdN (c - 1 + n) (c - 1) n (b + 1) else 0) = gcN c n b := rfl
  rw [e] at hk
  split at hk
  · rename_i h2
    exact ⟨h2.1, h2.2, by omega⟩
  · omega
theorem bal_le {c n : Nat} (h : c + n ≤ 16) (b : Nat) : gdN (c + n) c n b ≤ 65536 := by
  have h1 := bal_gd c n b
  unfold balT at h1
  have h2 := bal_bound (m := ((c : Int) + n).toNat) (by omega) (n : Int)
  have h3 := bal_bound (m := ((c : Int) + n).toNat) (by omega) ((n : Int) - b - 1)
  split at h1 <;> omega
def atE (c n b k : Int) : Int := if cntE c n b ≠ 0 then cntE c n b else if 0 ≤ k ∧ k < balT c n b then 0 else 1
def atV (c n b k : Int) : Word := if atE c n b k = 0 then atN (c.toNat + n.toNat) c.toNat n.toNat b.toNat k.toNat else []
set_option maxRecDepth 100000 in
set_option maxHeartbeats 4000000 in
theorem At_any (c n b k : Int) (w : World) : Calls Tryd.prog 12 #[.int .i64 c, .int .i64 n, .int .i64 b, .int .i64 k] w fun e w' => e = .returned (.tuple #[.string ⟨(atV c n b k).toArray⟩, .int .i64 (atE c n b k)]) ∧ Below w.heap.size w w' := by
  obtain ⟨E, hE⟩ : ∃ E, cntE c n b = E := ⟨_, rfl⟩
  have hEH := Lib.hid hE
  by_cases h0 : E = 0
  · subst h0
    obtain ⟨q1, q2, q3, q4, q5⟩ := cntE_zero hE
    obtain ⟨C, rfl⟩ : ∃ C : Nat, c = C := ⟨c.toNat, by omega⟩
    obtain ⟨N, rfl⟩ : ∃ N : Nat, n = N := ⟨n.toNat, by omega⟩
    obtain ⟨b0, rfl⟩ : ∃ b0 : Nat, b = b0 := ⟨b.toNat, by omega⟩
    have hV := Lib.hid (show cntV (C : Int) (N : Int) (b0 : Int) = balT C N b0 by unfold cntV; rw [if_pos hE])
    obtain ⟨G, hG⟩ : ∃ G : Nat, gdN (C + N) C N b0 = G := ⟨_, rfl⟩
    have hGH := Lib.hid (show balT (C : Int) (N : Int) (b0 : Int) = (G : Nat) by rw [bal_gd, hG])
    have hG6 := bal_le (c := C) (n := N) (by omega) b0
    rw [hG] at hG6
    obtain ⟨G1, hG1⟩ : ∃ G1 : Int, (G : Int) - 1 = G1 := ⟨_, rfl⟩
    obtain ⟨q, hq⟩ : ∃ q, decide ((0 : Int) ≤ k ∧ k ≤ G1) = q := ⟨_, rfl⟩
    have hqH := Lib.hid hq
    cases q with
    | false =>
      have hb : ¬ (0 ≤ k ∧ k ≤ G1) := by simpa using hq
      have hA := Lib.hid (show atE (C : Int) (N : Int) (b0 : Int) k = 1 by unfold atE; rw [if_neg (by simp [hE]), if_neg (by rw [hGH.out]; omega)])
      have hB := Lib.hid (show atV (C : Int) (N : Int) (b0 : Int) k = [] by unfold atV; rw [hA.out]; rfl)
      rw [hA.out, hB.out]
      clear hE hG hq
      go_enter Tryd.func12, Tryd.ntmps12
      go_wp2_with (first
        | (go_at_call 25; (with_reducible refine (counted_any _ _ _ _).mono ?_); rintro e w2 ⟨rfl, rfl⟩; rw [hV.out, hEH.out, hGH.out])
        | (go_at_call 26; (with_reducible refine (between_any _ _ _ _).mono ?_); rintro e w2 ⟨rfl, rfl⟩; rw [hqH.out]))
      go_ret2
      exact ⟨rfl, Below.refl _ _⟩
    | true =>
      have hb : 0 ≤ k ∧ k ≤ G1 := by simpa using hq
      obtain ⟨K, rfl⟩ : ∃ K : Nat, k = K := ⟨k.toNat, by omega⟩
      have hA := Lib.hid (show atE (C : Int) (N : Int) (b0 : Int) (K : Int) = 0 by unfold atE; rw [if_neg (by simp [hE]), if_pos (by rw [hGH.out]; omega)])
      obtain ⟨R, hR⟩ : ∃ R, atN (C + N) C N b0 K = R := ⟨_, rfl⟩
      have hB := Lib.hid (show atV (C : Int) (N : Int) (b0 : Int) (K : Int) = R by unfold atV; rw [hA.out, if_pos rfl, ← hR]; rfl)
      rw [hA.out, hB.out]
      have hKG : K < gdN (C + N) C N b0 := by omega
      have hKGH := Lib.hid hKG
      have hRH := Lib.hid (show [] ++ atN (C + N) C N b0 K = R from hR)
      clear hE hG hq hR hKG
      go_enter Tryd.func12, Tryd.ntmps12
      go_wp2_with (first
        | (go_at_call 25; (with_reducible refine (counted_any _ _ _ _).mono ?_); rintro e wz ⟨rfl, hwz⟩; replace hwz := hwz.symm; subst hwz; rw [hV.out, hEH.out, hGH.out])
        | (go_at_call 26; (with_reducible refine (between_any _ _ _ _).mono ?_); rintro e wz ⟨rfl, hwz⟩; replace hwz := hwz.symm; subst hwz; rw [hqH.out])
        | (with_reducible show wpList _ _ _ (⟨_, .alloc 62, _, _, _, _⟩ :: _) _ _
           refine wpList_alloc_blk rfl 62 rfl _ zero_bld ?_
           intro w2 bb hBb hgr2 hge2
           have hb2 : Below w.heap.size w w2 := below_none (Below.refl _ _) hgr2 (Nat.le_refl _)
           have hbl2 := hBb.lt
           have hBF0 : Lib.IsBuilderF 62 5 bb bb [] w2 := Lib.IsBuilderF.of (Or.inl ⟨Nat.le_refl _, _, hBb, World.ownsRow_nil _ _ _ _, by simp [Value.ownBlock]⟩)
           clear hgr2 hBb))
      have hwb : w.heap.size ≤ bb := hge2
      simp only [Act.put, List.setIfInBounds_toArray, List.set_cons_succ, List.set_cons_zero]
      go_loopw [0, 1, 2, 3] (fun v0 v1 v2 v3 wr => ∃ (c n b k s : Nat) (out : Word), c + n = s ∧ s ≤ 16 ∧ c + b ≤ 36 ∧ k ≤ 65536 ∧ out.length + s ≤ 16 ∧ v0 = .int .i64 c ∧ v1 = .int .i64 n ∧ v2 = .int .i64 b ∧ v3 = .int .i64 k ∧ Hid (out ++ atN s c n b k = R) ∧ Hid (k < gdN s c n b) ∧ Lib.IsBuilderF 62 5 bb bb (Lib.byteCells out) wr ∧ bb < wr.heap.size ∧ Below w.heap.size w wr) (fun v0 v1 _ _ _ => (intOf v0).toNat + (intOf v1).toNat)
      case atStart => exact ⟨C, N, b0, K, C + N, [], rfl, by omega, by omega, by omega, by simp; omega, rfl, rfl, rfl, rfl, hRH, hKGH, hBF0, hbl2, hb2⟩
      case round =>
        clear hBF0 hbl2 hb2
        obtain ⟨c, n, b, k, s, out, hcs, hs16, hcb, hk6, hol0, rfl, rfl, rfl, rfl, hL, hlt, hBF, hbw, hbe⟩ := hrel
        have hcsi : (c : Int) + n = s := by omega
        have hol : (Lib.byteCells out).length + 1 ≤ 140737488355328 := by rw [Lib.byteCells_length]; omega
        cases s with
        | succ s =>
          have hsi : (0 : Int) < ((s + 1 : Nat) : Int) := by omega
          obtain ⟨X, hX⟩ : ∃ X, gcN c n b = X := ⟨_, rfl⟩
          obtain ⟨c1, hc1⟩ : ∃ c1 : Int, (c : Int) - 1 = c1 := ⟨_, rfl⟩
          obtain ⟨b1, hb1⟩ : ∃ b1 : Nat, (b : Int) + 1 = b1 := ⟨b + 1, by omega⟩
          have hb1n : b + 1 = b1 := by omega
          have hbl := Lib.hid (show ∀ w', Calls Tryd.prog 27 #[.int .i64 c1, .int .i64 n, .int .i64 b1] w' fun e w2 => e = .returned (.int .i64 (X : Nat)) ∧ w2 = w' from fun w' => (ballots_any c1 n b1 (by omega) (by omega) (by omega) (by omega) w').mono (by
            rintro e w2 ⟨rfl, h⟩
            exact ⟨by rw [← hc1, ← hb1, bal_gc, hX], h⟩))
          have hc1b : -1 ≤ c1 ∧ c1 ≤ 16 := by omega
          obtain ⟨hc1a, hc1b⟩ := hc1b
          have hX6 : (X : Int) ≤ 65536 := by
            rw [← hX]
            unfold gcN
            split
            · have := bal_le (c := c - 1) (n := n) (by omega) (b + 1)
              omega
            · omega
          by_cases hkX : k < X
          · have hki : (k : Int) < X := by omega
            obtain ⟨g1, g2⟩ := gc_pos (c := c) (n := n) (b := b) (k := k) (by rw [hX]; exact hkX)
            have e1 := Lib.hid (show c1 = ((c - 1 : Nat) : Int) by omega)
            have hN := Lib.hid (show (out ++ [99]) ++ atN s (c - 1) n b1 k = R by rw [← hL.out, atN, if_pos (by rw [hX]; exact hkX), hb1n]; simp)
            have hG := Lib.hid (show k < gdN s (c - 1) n b1 by rw [← hb1n, show s = c - 1 + n by omega]; exact g2)
            have hcl : c - 1 + n = s := by omega
            clear hX hb1n hkX
            go_wp2_with (first
              | (go_at_call 27; (with_reducible refine (hbl.out _).mono ?_); rintro e w3 ⟨rfl, rfl⟩)
              | (go_at_call 28; (with_reducible refine (Tryd.Builder_WriteByte_k bb bb _ _ _ hBF hol (Nat.le_of_lt hbw)).mono ?_); rintro e w5 ⟨rfl, hB5, hbl5, hok5⟩
                 have hb3 : Below w.heap.size w w5 := hbe.trans (hbl5.mono hwb)
                 have hbl3 : bb < w5.heap.size := (by have := hbl5.size; omega)
                 have hBF3 : Lib.IsBuilderF 62 5 bb bb (Lib.byteCells (out ++ [99])) w5 := by
                   have e : Lib.byteCells (out ++ [99]) = Lib.byteCells out ++ [.int .u8 99] := by simp [Lib.byteCells]
                   rw [e]; exact Or.inr hB5))
            go_roundw
            case rel => exact ⟨c - 1, n, b1, k, s, out ++ [99], hcl, by omega, by omega, hk6, by simp; omega, by rw [e1.out], rfl, rfl, rfl, hN, hG, hBF3, hbl3, hb3⟩
            case measure => (have hq1 := e1.out; rw [hq1]; simp only [intOf]; omega)
          · have hki : ¬ (k : Int) < X := by omega
            obtain ⟨g1, g2, g3⟩ := gc_neg (c := c) (n := n) (b := b) (k := k) (by omega) (by rw [hcs]; exact hlt.out) (by rw [hX]; exact hkX)
            rw [hX] at g3
            obtain ⟨k1, hk1⟩ : ∃ k1 : Nat, k - X = k1 := ⟨_, rfl⟩
            rw [hk1] at g3
            have hk1i : (k : Int) - X = k1 := by omega
            obtain ⟨n1, hn1⟩ : ∃ n1 : Nat, (n : Int) - 1 = n1 := ⟨n - 1, by omega⟩
            obtain ⟨b2, hb2'⟩ : ∃ b2 : Nat, (b : Int) - 1 = b2 := ⟨b - 1, by omega⟩
            have hN := Lib.hid (show (out ++ [110]) ++ atN s c n1 b2 k1 = R by rw [← hL.out, atN, if_neg (by rw [hX]; exact hkX), hX, hk1, show n - 1 = n1 by omega, show b - 1 = b2 by omega]; simp)
            have hG := Lib.hid (show k1 < gdN s c n1 b2 by rw [show n - 1 = n1 by omega, show b - 1 = b2 by omega] at g3; rw [show s = c + n1 by omega]; exact g3)
            have hcl : c + n1 = s := by omega
            clear hX hb1n hkX
            go_wp2_with (first
              | (go_at_call 27; (with_reducible refine (hbl.out _).mono ?_); rintro e w3 ⟨rfl, rfl⟩)
              | (go_at_call 28; (with_reducible refine (Tryd.Builder_WriteByte_k bb bb _ _ _ hBF hol (Nat.le_of_lt hbw)).mono ?_); rintro e w5 ⟨rfl, hB5, hbl5, hok5⟩
                 have hb3 : Below w.heap.size w w5 := hbe.trans (hbl5.mono hwb)
                 have hbl3 : bb < w5.heap.size := (by have := hbl5.size; omega)
                 have hBF3 : Lib.IsBuilderF 62 5 bb bb (Lib.byteCells (out ++ [110])) w5 := by
                   have e : Lib.byteCells (out ++ [110]) = Lib.byteCells out ++ [.int .u8 110] := by simp [Lib.byteCells]
                   rw [e]; exact Or.inr hB5))
            go_roundw
            case rel => exact ⟨c, n1, b2, k1, s, out ++ [110], hcl, by omega, by omega, by omega, by simp; omega, rfl, rfl, rfl, rfl, hN, hG, hBF3, hbl3, hb3⟩
            case measure => simp only [intOf]; omega
        | zero =>
          have hc0 : c = 0 := by omega
          have hn0 : n = 0 := by omega
          have hsi : ¬ (0 : Int) < ((0 : Nat) : Int) := by omega
          have hRo := Lib.hid (show out = R by rw [← hL.out, atN, List.append_nil])
          go_wp2_with (first
            | (go_at_call 29; (with_reducible refine (Tryd.Builder_String_any_k bb bb _ _ hBF (Nat.le_of_lt hbw)).mono ?_); rintro e w5 ⟨rfl, hB5, hbl5, hok5⟩))
          go_ret2
          exact ⟨by rw [← hRo.out]; rfl, hbe.trans (hbl5.mono hwb)⟩
  · have hA := Lib.hid (show atE c n b k = E by unfold atE; rw [hE, if_pos h0])
    have hB := Lib.hid (show atV c n b k = [] by unfold atV; rw [hA.out, if_neg h0])
    have hk0 : (E != 0) = true := by simp [h0]
    rw [hA.out, hB.out]
    clear hE
    go_enter Tryd.func12, Tryd.ntmps12
    go_wp2_with (first
      | (go_at_call 25; (with_reducible refine (counted_any _ _ _ _).mono ?_); rintro e w2 ⟨rfl, rfl⟩; rw [hEH.out]))
    go_ret2
    exact ⟨rfl, Below.refl _ _⟩
end Go.Proofs.YthbkfhhnhiplkaaDoor.Ti
