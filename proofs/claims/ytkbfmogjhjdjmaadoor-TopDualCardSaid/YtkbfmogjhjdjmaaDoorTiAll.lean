/- The texts TiBase, TiIter, TiStart, TiLacks, TiBallot, TiCount, TiAt, TiNumber, TiTurns, TiPairK, TiPairs in one. -/
import Derived.Test.YtkbfmogjhjdjmaaDoorKit
import Derived.Test.YtkbfmogjhjdjmaaDoorChecked
import Derived.Test.YtkbfmogjhjdjmaaDoorPush
import Derived.Test.YtkbfmogjhjdjmaaDoorShelf
import Derived.Lib.OthersKept
import Derived.Laws.Runes
import Derived.Laws.RangeAny
import Derived.Deep.RegionHeld3
import Derived.BigQuiet
import Derived.Laws.MakeOwn
import Derived.ArgAppend
/- Words of bytes; orders of customers: errors, steps, the first one for whom change lacks. -/
namespace Go.Proofs.YtkbfmogjhjdjmaaDoor.Ti
open Go.RowKit
abbrev Word := List UInt8
def bts (s : ByteArray) : Word := s.data.toList
theorem bts_len (s : ByteArray) : (bts s).length = s.size := Array.length_toList
theorem bts_inj {s t : ByteArray} (h : bts s = bts t) : s = t := by
  obtain ⟨a⟩ := s
  obtain ⟨b⟩ := t
  exact congrArg ByteArray.mk (Array.toList_inj.1 h)
theorem bts_mk (l : Word) : bts ⟨l.toArray⟩ = l := by simp [bts]
theorem mk_bts (s : ByteArray) : (⟨(bts s).toArray⟩ : ByteArray) = s := bts_inj (bts_mk _)
theorem bts_extract (s : ByteArray) (a b : Nat) : bts (s.extract a b) = ((bts s).take b).drop a := by
  simp [bts, List.drop_take]
theorem bts_append (s t : ByteArray) : bts (s ++ t) = bts s ++ bts t := by simp [bts]
theorem bts_at (s : ByteArray) (k : Nat) (h : k < s.size) : (bts s)[k]? = some s[k] := by
  have h1 : k < s.data.size := h
  show s.data.toList[k]? = some (s.data[k])
  rw [Array.getElem?_toList, Array.getElem?_eq_getElem h1]
/-- the error of an order -/
def okT (l : Word) : Bool := l.all fun b => b == 99 || b == 110
def chkT (l : Word) : Int := if 16 < l.length then 3 else if okT l then 0 else 10
def opT (l : Word) (b : Int) : Int := if chkT l ≠ 0 then chkT l else if 0 ≤ b ∧ b ≤ 20 then 0 else 1
/-- coins after a customer -/
def stp (b : Int) (c : UInt8) : Int := if c = 99 then b + 1 else b - 1
def stepsT (b : Int) : Word → List Int
  | [] => []
  | c :: l => stp b c :: stepsT (stp b c) l
def endT (b : Int) (l : Word) : Int := l.foldl stp b
theorem steps_len (l : Word) : ∀ b, (stepsT b l).length = l.length := by
  induction l with
  | nil => intro b; rfl
  | cons c l ih => intro b; simp [stepsT, ih]
theorem steps_snoc (l : Word) (c : UInt8) : ∀ b, stepsT b (l ++ [c]) = stepsT b l ++ [stp (endT b l) c] := by
  induction l with
  | nil => intro b; rfl
  | cons d l ih => intro b; simp only [List.cons_append, stepsT, ih]; rfl
theorem end_snoc (l : Word) (c : UInt8) (b : Int) : endT b (l ++ [c]) = stp (endT b l) c := by simp [endT]
theorem end_bound (l : Word) : ∀ b, b - l.length ≤ endT b l ∧ endT b l ≤ b + l.length := by
  induction l with
  | nil => intro b; simp [endT]
  | cons c l ih =>
    intro b
    have := ih (stp b c)
    have e : endT b (c :: l) = endT (stp b c) l := rfl
    rw [e]
    have h : b - 1 ≤ stp b c ∧ stp b c ≤ b + 1 := by unfold stp; split <;> omega
    simp only [List.length_cons]
    omega
theorem steps_get (l : Word) : ∀ (b : Int) (i : Nat), i < l.length → (stepsT b l)[i]? = some (endT b (l.take (i + 1))) := by
  induction l with
  | nil => intro b i h; simp at h
  | cons c l ih =>
    intro b i h
    cases i with
    | zero => rfl
    | succ i =>
      rw [stepsT, List.getElem?_cons_succ, ih _ i (by simpa using h)]
      rfl
theorem steps_bound {l : Word} {b x : Int} (h : x ∈ stepsT b l) : b - l.length ≤ x ∧ x ≤ b + l.length := by
  obtain ⟨i, hi, he⟩ := List.getElem_of_mem h
  have hi' : i < l.length := by rwa [steps_len] at hi
  have h1 := steps_get l b i hi'
  rw [List.getElem?_eq_getElem hi, he] at h1
  injection h1 with h1
  have := end_bound (l.take (i + 1)) b
  rw [← h1, List.length_take] at this
  omega
/-- the first customer for whom change lacks, or -1 -/
def negI (xs : List Int) (i : Nat) : Int := match xs with
  | [] => -1
  | x :: r => if x < 0 then i else negI r (i + 1)
def lacksT (l : Word) (b : Int) : Int := negI (stepsT b l) 0
theorem negI_bound (xs : List Int) : ∀ i, negI xs i = -1 ∨ ((i : Int) ≤ negI xs i ∧ negI xs i < i + xs.length) := by
  induction xs with
  | nil => intro i; left; rfl
  | cons x r ih =>
    intro i
    rw [negI]
    split
    · right; simp only [List.length_cons]; omega
    · rcases ih (i + 1) with h | h
      · left; exact h
      · right; simp only [List.length_cons]; omega
theorem okT_at {l : Word} (h : okT l = true) {c : UInt8} (hc : c ∈ l) : c = 99 ∨ c = 110 := by
  have := (List.all_eq_true.1 h) c hc
  simpa using this
theorem chkT_zero {l : Word} (h : chkT l = 0) : l.length ≤ 16 ∧ okT l = true := by
  unfold chkT at h
  split at h
  · omega
  · split at h
    · exact ⟨by omega, by assumption⟩
    · omega
theorem opT_zero {l : Word} {b : Int} (h : opT l b = 0) : chkT l = 0 ∧ 0 ≤ b ∧ b ≤ 20 := by
  unfold opT at h
  split at h
  · contradiction
  · rename_i h0
    split at h
    · rename_i h1; exact ⟨by simpa using h0, h1⟩
    · omega
end Go.Proofs.YtkbfmogjhjdjmaaDoor.Ti
/- A range over a string of ASCII letters; an own list that is returned. -/
namespace Go.Proofs.YtkbfmogjhjdjmaaDoor.Ti
open Go.RowKit
theorem iter_next {wr : World} {k pos : Nat} {s : ByteArray} {y : UInt8} (hit : wr.heap[k]? = some (.stringIter s pos)) (hp : pos < s.size) (hy : (bts s)[pos]? = some y) (h128 : y.toNat < 128) :
    ∃ wn : World, (∀ ty, (Instr.next (.pointer (some ⟨k, 0, none⟩)) true ty).run Tryd.prog wr = .ok (.tuple #[.bool true, .int .i64 pos, .int .i32 y.toNat]) wn) ∧ wn.heap[k]? = some (.stringIter s (pos + 1)) ∧ wr.grownBy wn (some k) := by
  have hyb : s[pos]'hp = y := by
    have := bts_at s pos hp
    rw [hy] at this
    injection this with this
    exact this.symm
  refine ⟨wr.iterAt k s (pos + 1), fun ty => ?_, Lib.iterAt_heap wr k s pos (pos + 1) hit, rfl, rfl, rfl, ?_, fun g _ hne => Lib.iterAt_other wr k g s (pos + 1) (fun e => hne (by rw [e]))⟩
  · rw [Lib.run_next_ascii_at wr k s pos ty hit hp (by rw [hyb]; omega), hyb]
  · have := Lib.iterAt_size wr k s (pos + 1)
    omega
theorem iter_cn {wr : World} {k pos : Nat} {s : ByteArray} (hok : okT (bts s) = true) (hit : wr.heap[k]? = some (.stringIter s pos)) (hp : pos < s.size) :
    ∃ y wn, (bts s)[pos]? = some y ∧ wn.heap[k]? = some (.stringIter s (pos + 1)) ∧ wr.grownBy wn (some k) ∧
      ((y = 99 ∧ ∀ ty, (Instr.next (.pointer (some ⟨k, 0, none⟩)) true ty).run Tryd.prog wr = .ok (.tuple #[.bool true, .int .i64 pos, .int .i32 99]) wn) ∨
       (y = 110 ∧ ∀ ty, (Instr.next (.pointer (some ⟨k, 0, none⟩)) true ty).run Tryd.prog wr = .ok (.tuple #[.bool true, .int .i64 pos, .int .i32 110]) wn)) := by
  obtain ⟨y, hy⟩ : ∃ y, (bts s)[pos]? = some y := ⟨_, bts_at s pos hp⟩
  have hyy := okT_at hok (List.mem_of_getElem? hy)
  obtain ⟨wn, h1, h2, h3⟩ := iter_next hit hp hy (by rcases hyy with rfl | rfl <;> decide)
  refine ⟨y, wn, hy, h2, h3, ?_⟩
  rcases hyy with rfl | rfl
  · exact Or.inl ⟨rfl, h1⟩
  · exact Or.inr ⟨rfl, h1⟩
theorem iter_end {wr : World} {k pos : Nat} {s : ByteArray} (hit : wr.heap[k]? = some (.stringIter s pos)) (hp : ¬ pos < s.size) : ∀ ty, (Instr.next (.pointer (some ⟨k, 0, none⟩)) true ty).run Tryd.prog wr = .ok (.tuple #[.bool false]) wr :=
  fun ty => Lib.run_next_end_at wr k s pos ty hit hp
theorem heap_lt {w : World} {k : Nat} {o : Obj} (h : w.heap[k]? = some o) : k < w.heap.size := by
  rcases Nat.lt_or_ge k w.heap.size with h1 | h1
  · exact h1
  · rw [Array.getElem?_eq_none h1] at h; cases h
/-- an iterator stays where a row grows -/
theorem iter_stay {w w' : World} {k : Nat} {o : Obj} {row : Option Nat} (h : w.heap[k]? = some o) (hg : w.grownBy w' row) (hne : some k ≠ row) : w'.heap[k]? = some o := (hg.block k (heap_lt h) hne).trans h
theorem _root_.Go.Proofs.YtkbfmogjhjdjmaaDoor.OwnI.ne_iter {w : World} {base k pos : Nat} {v : Value} {xs : List Int} {s : ByteArray} (h : OwnI w base v xs) (hit : w.heap[k]? = some (.stringIter s pos)) : v.ownBlock ≠ some k := by
  rcases h.2 with ⟨rfl, _⟩ | ⟨g, cap, cur, rfl, _, hg, _⟩
  · simp [Value.ownBlock]
  · intro e
    obtain rfl : g = k := by simpa [Value.ownBlock] using e
    rw [hit] at hg
    cases hg
theorem make_own (n : Nat) (hn : n ≤ 1000000) (w : World) : ∃ w', (Instr.makeSlice 38 (.int .i64 0) (.int .i64 (n : Int))).run Tryd.prog w = .ok (.slice (some ⟨w.heap.size, 0, none⟩) 0 n) w' ∧ OwnI w' w.heap.size (.slice (some ⟨w.heap.size, 0, none⟩) 0 n) [] ∧ w.grownBy w' none := by
  obtain ⟨i0, hi0, hz0, hz1, hz2⟩ := info_parts infoInt
  exact run_makeSlice_owned w w.heap.size 38 3 i0 (.int .i64 0) 1 Tryd.underlying38 hi0 hz0 hz1 .i64 .i64 n (by omega) (by rw [hz2]; omega) (by simp only [maxLen]; omega) (Nat.le_refl _)
/-- an own list of ints is returned -/
def RetI (xs : List Int) (w : World) (e : Ending) (w' : World) : Prop := ∃ v, e = .returned v ∧ OwnI w' w.heap.size v xs ∧ Below w.heap.size w w'
/-- an own list of ints, and an error -/
def RetIE (xs : List Int) (err : Int) (w : World) (e : Ending) (w' : World) : Prop := ∃ v, e = .returned (.tuple #[v, .int .i64 err]) ∧ OwnI w' w.heap.size v xs ∧ Below w.heap.size w w'
theorem _root_.Go.Proofs.YtkbfmogjhjdjmaaDoor.OwnI.rebase {w : World} {b b' : Nat} {v : Value} {xs : List Int} (h : OwnI w b v xs) (hb : b' ≤ b) : OwnI w b' v xs := by
  refine ⟨h.1, ?_⟩
  rcases h.2 with h0 | ⟨g, cap, cur, rfl, hg, r⟩
  · exact .inl h0
  · exact .inr ⟨g, cap, cur, rfl, Nat.le_trans hb hg, r⟩
theorem _root_.Go.Proofs.YtkbfmogjhjdjmaaDoor.OwnI.full {w : World} {base : Nat} {v : Value} {xs : List Int} (h : OwnI w base v xs) (hne : 0 < xs.length) : ∃ g c, v = .slice (some ⟨g, 0, none⟩) xs.length c ∧ xs.length ≤ c ∧ base ≤ g ∧ g < w.heap.size ∧ ∀ j, j < xs.length → w.cell? ⟨g, j, none⟩ = some (.int .i64 (xs.getD j 0)) := by
  have hr := h.reads
  rcases h.2 with ⟨_, h0⟩ | ⟨g, cap, cur, rfl, hb, hg, hc, _⟩
  · omega
  · obtain ⟨A, c, he, hr⟩ := hr
    obtain ⟨rfl, rfl⟩ : some ⟨g, 0, none⟩ = A ∧ cap = c := by injection he with h1 _ h2; exact ⟨h1, h2⟩
    refine ⟨g, cap, rfl, hc, hb, h.lt rfl, fun j hj => ?_⟩
    obtain ⟨ad, u, hA, _, hu, hcell⟩ := Reads.at_ hr hj
    obtain rfl : (⟨g, 0, none⟩ : Addr) = ad := by injection hA
    rw [ints_get xs j hj] at hu
    injection hu with hu
    rw [hu, ← hcell]
    congr 1
    unfold Addr.add
    split <;> simp_all
theorem below_iter {B : Nat} {w : World} (s : ByteArray) (hB : B ≤ w.heap.size) : Below B w (w.alloc (.stringIter s 0)) := (Below.refl _ _).alloc hB _
end Go.Proofs.YtkbfmogjhjdjmaaDoor.Ti
/- Check, opened, between; steps; the first customer for whom change lacks. -/
namespace Go.Proofs.YtkbfmogjhjdjmaaDoor.Ti
open Go.RowKit
theorem drop_first {p : UInt8 → Bool} : ∀ {l : Word} {a : UInt8} {r : Word}, l.dropWhile p = a :: r → p a = false := by
  intro l
  induction l with
  | nil => intro a r h; cases h
  | cons b l ih =>
    intro a r h
    rw [List.dropWhile_cons] at h
    split at h
    · exact ih h
    · rename_i hb
      injection h with h1 h2
      rw [← h1]; simpa using hb
theorem trim_ok (l : Word) : (Lib.trimS l [99, 110]).isEmpty = okT l := by
  have hall : ∀ m : Word, (m.dropWhile fun b => List.contains [99, 110] b).isEmpty = m.all fun b => List.contains [99, 110] b := by
    intro m
    induction m with
    | nil => rfl
    | cons b m ih =>
      rw [List.dropWhile_cons, List.all_cons]
      by_cases hb : List.contains [99, 110] b = true
      · rw [if_pos hb, ih, hb]; rfl
      · rw [if_neg hb]
        simp only [Bool.not_eq_true] at hb
        rw [hb]; rfl
  have hok : okT l = l.all fun b => List.contains [99, 110] b := by
    unfold okT
    congr 1
    funext b
    rw [Bool.eq_iff_iff]
    simp
  unfold Lib.trimS Lib.trimLeftS Lib.trimRightS
  rw [hall, hok]
  cases hd : l.reverse.dropWhile fun b => List.contains [99, 110] b with
  | nil =>
    have := hall l.reverse
    rw [hd, List.all_reverse] at this
    rw [← this]; rfl
  | cons a r =>
    have ha := drop_first hd
    have := hall l.reverse
    rw [hd, List.all_reverse] at this
    rw [← this, List.all_reverse, List.all_cons, ha]
    rfl
set_option maxRecDepth 100000 in
set_option maxHeartbeats 1000000 in
theorem between_any (a b c : Int) (w : World) : Calls Tryd.prog 67 #[.int .i64 a, .int .i64 b, .int .i64 c] w fun e w' => e = .returned (.bool (decide (a ≤ b ∧ b ≤ c))) ∧ w' = w := by
  by_cases h1 : a ≤ b
  · by_cases h2 : b ≤ c
    · have hR := Lib.hid (show decide (a ≤ b ∧ b ≤ c) = true by simp [h1, h2])
      go_enter Tryd.func67, Tryd.ntmps67
      go_wp2_with (fail)
      go_ret
      exact ⟨by first | rfl | (rw [hR.out]; rfl), rfl⟩
    · have hR := Lib.hid (show decide (a ≤ b ∧ b ≤ c) = false by simp [h2])
      have h3 : decide (b ≤ c) = false := by simp [h2]
      go_enter Tryd.func67, Tryd.ntmps67
      go_wp2_with (fail)
      go_ret
      exact ⟨by first | rfl | (rw [hR.out]; rfl), rfl⟩
  · have hR := Lib.hid (show decide (a ≤ b ∧ b ≤ c) = false by simp [h1])
    have h3 : decide (a ≤ b) = false := by simp [h1]
    go_enter Tryd.func67, Tryd.ntmps67
    go_wp2_with (fail)
    go_ret
    exact ⟨by first | rfl | (rw [hR.out]; rfl), rfl⟩
end Go.Proofs.YtkbfmogjhjdjmaaDoor.Ti
/- The first customer for whom change lacks; Coins, Lacks, Needs. -/
namespace Go.Proofs.YtkbfmogjhjdjmaaDoor.Ti
open Go.RowKit
theorem negI_step {xs : List Int} {i : Nat} {x : Int} (h : xs[i]? = some x) : negI (xs.drop i) i = if x < 0 then (i : Int) else negI (xs.drop (i + 1)) (i + 1) := by
  obtain ⟨hi, rfl⟩ := List.getElem?_eq_some_iff.1 h
  rw [List.drop_eq_getElem_cons hi, negI]
/-- what is returned -/
def coinL (l : Word) (b : Int) : List Int := if opT l b = 0 ∧ lacksT l b < 0 then stepsT b l else []
def coinE (l : Word) (b : Int) : Int := if opT l b ≠ 0 then opT l b else if lacksT l b < 0 then 0 else 14
def lackV (l : Word) (b : Int) : Int := if opT l b = 0 ∧ 0 ≤ lacksT l b then lacksT l b else 0
def lackE (l : Word) (b : Int) : Int := if opT l b ≠ 0 then opT l b else if lacksT l b < 0 then 12 else 0
def needV (l : Word) : Int := if chkT l = 0 then -((stepsT 0 l).foldl min 0) else 0
end Go.Proofs.YtkbfmogjhjdjmaaDoor.Ti
/- Plain: how many can be chosen; how many orders are good. -/
namespace Go.Proofs.YtkbfmogjhjdjmaaDoor.Ti
/-- Pascal's triangle -/
def ch : Nat → Nat → Nat
  | _, 0 => 1
  | 0, _ + 1 => 0
  | m + 1, k + 1 => ch m k + ch m (k + 1)
theorem ch_zero (m : Nat) : ch m 0 = 1 := by cases m <;> rfl
theorem ch_none : ∀ (m k : Nat), m < k → ch m k = 0 := by
  intro m
  induction m with
  | zero => intro k h; cases k with
    | zero => omega
    | succ k => rfl
  | succ m ih => intro k h; cases k with
    | zero => omega
    | succ k => rw [ch, ih k (by omega), ih (k + 1) (by omega)]
theorem ch_self (m : Nat) : ch m m = 1 := by
  induction m with
  | zero => rfl
  | succ m ih => rw [ch, ih, ch_none m (m + 1) (by omega)]
theorem ch_step : ∀ (m k : Nat), ch m (k + 1) * (k + 1) = ch m k * (m - k) := by
  intro m
  induction m with
  | zero => intro k; rw [ch_none 0 (k + 1) (by omega)]; simp
  | succ m ih =>
    intro k
    cases k with
    | zero =>
      have := ih 0
      rw [ch_zero] at this ⊢
      rw [show ch (m + 1) (0 + 1) = ch m 0 + ch m (0 + 1) from rfl, ch_zero]
      omega
    | succ k =>
      have h1 := ih k
      have h2 := ih (k + 1)
      rw [ch, ch, Nat.add_mul, Nat.add_mul, h2, show m + 1 - (k + 1) = m - k by omega, ← h1, ← Nat.mul_add]
      rcases Nat.lt_or_ge m (k + 1) with hlt | hge
      · rw [ch_none m (k + 1) hlt]; simp
      · rw [← Nat.mul_add]
        congr 1
        omega
theorem ch_le : ∀ (m k : Nat), ch m k ≤ 2 ^ m := by
  intro m
  induction m with
  | zero => intro k; cases k <;> simp [ch]
  | succ m ih =>
    intro k
    cases k with
    | zero => rw [ch_zero]; exact Nat.one_le_two_pow
    | succ k =>
      have h1 := ih k
      have h2 := ih (k + 1)
      rw [ch, Nat.pow_succ]
      omega
/-- a step of the program's choose -/
theorem ch_div {m i : Nat} : ((ch m i : Nat) : Int) * ((m : Int) - i) / ((i : Int) + 1) = (ch m (i + 1) : Nat) := by
  rcases Nat.lt_or_ge m i with h | h
  · rw [ch_none m i h, ch_none m (i + 1) (by omega)]; simp
  · have := ch_step m i
    have e : ((ch m i : Nat) : Int) * ((m : Int) - i) = ((ch m (i + 1) : Nat) : Int) * ((i : Int) + 1) := by
      have h2 : ((m : Int) - i) = ((m - i : Nat) : Int) := by omega
      rw [h2, show ((i : Int) + 1) = ((i + 1 : Nat) : Int) by omega, ← Int.natCast_mul, ← Int.natCast_mul, this]
    rw [e, Int.mul_ediv_cancel _ (by omega)]
def chI (m : Nat) (n : Int) : Int := if n < 0 then 0 else (ch m n.toNat : Nat)
/-- the number of good orders, as the program counts -/
def balT (c n b : Int) : Int := if c < 0 ∨ n < 0 ∨ c + b < n then 0 else chI (c + n).toNat n - chI (c + n).toNat (n - b - 1)
/-- the number of good orders: the first customer pays with a coin, or with a note -/
def gdN : Nat → Nat → Nat → Nat → Nat
  | 0, _, _, _ => 1
  | s + 1, c, n, b => (if 0 < c then gdN s (c - 1) n (b + 1) else 0) + (if 0 < n ∧ 0 < b then gdN s c (n - 1) (b - 1) else 0)
theorem gd_none : ∀ (s c n b : Nat), s = c + n → c + b < n → gdN s c n b = 0 := by
  intro s
  induction s with
  | zero => intro c n b h1 h2; omega
  | succ s ih =>
    intro c n b h1 h2
    rw [gdN]
    have e1 : (if 0 < c then gdN s (c - 1) n (b + 1) else 0) = 0 := by
      split
      · exact ih _ _ _ (by omega) (by omega)
      · rfl
    have e2 : (if 0 < n ∧ 0 < b then gdN s c (n - 1) (b - 1) else 0) = 0 := by
      split
      · exact ih _ _ _ (by omega) (by omega)
      · rfl
    rw [e1, e2]
def flN (c n b : Nat) : Int := (ch (c + n) n : Nat) - (if n ≤ b then 0 else (ch (c + n) (n - b - 1) : Nat) : Int)
theorem gd_fl : ∀ (s c n b : Nat), s = c + n → n ≤ c + b → (gdN s c n b : Int) = flN c n b := by
  intro s
  induction s with
  | zero =>
    intro c n b h1 h2
    obtain ⟨rfl, rfl⟩ : c = 0 ∧ n = 0 := by omega
    simp [gdN, flN, ch]
  | succ s ih =>
    intro c n b h1 h2
    rw [gdN]
    cases c with
    | zero =>
      cases n with
      | zero => omega
      | succ n =>
        have hb : 0 < b := by omega
        rw [if_neg (by omega), if_pos ⟨by omega, hb⟩, Nat.zero_add, show n + 1 - 1 = n by omega, ih 0 n (b - 1) (by omega) (by omega)]
        unfold flN
        rw [Nat.zero_add, Nat.zero_add, ch_self, ch_self, if_pos (by omega), if_pos (by omega)]
    | succ c =>
      have hA := ih c n (b + 1) (by omega) (by omega)
      rw [if_pos (by omega)]
      cases n with
      | zero =>
        rw [if_neg (by omega), Nat.add_zero, show c + 1 - 1 = c by omega, hA]
        unfold flN
        rw [ch_zero, ch_zero, if_pos (by omega), if_pos (by omega)]
      | succ n =>
        have e1 : ch (c + 1 + (n + 1)) (n + 1) = ch (c + (n + 1)) n + ch (c + (n + 1)) (n + 1) := by
          rw [show c + 1 + (n + 1) = (c + (n + 1)) + 1 by omega, ch]
        rcases Nat.eq_zero_or_pos b with hb | hb
        · subst hb
          rw [if_neg (by omega), Nat.add_zero, show c + 1 - 1 = c by omega, hA]
          unfold flN
          rw [e1, if_neg (show ¬ n + 1 ≤ 0 by omega), show n + 1 - 0 - 1 = n by omega]
          cases n with
          | zero => rw [if_pos (by omega), ch_zero, ch_zero]; omega
          | succ n =>
            rw [if_neg (by omega), show n + 1 + 1 - (0 + 1) - 1 = n by omega, show c + 1 + (n + 1 + 1) = (c + (n + 1 + 1)) + 1 by omega, ch]
            omega
        · have hB := ih (c + 1) n (b - 1) (by omega) (by omega)
          rw [if_pos ⟨by omega, hb⟩, show c + 1 - 1 = c by omega, show n + 1 - 1 = n by omega]
          rw [Int.natCast_add, hA, hB]
          unfold flN
          rw [e1, show c + 1 + n = c + (n + 1) by omega]
          by_cases h3 : n + 1 ≤ b
          · rw [if_pos (by omega), if_pos (by omega), if_pos h3]; omega
          · rw [if_neg (show ¬ n ≤ b - 1 by omega), if_neg h3, show n - (b - 1) - 1 = n - b by omega, show n + 1 - b - 1 = n - b by omega]
            by_cases h4 : n + 1 ≤ b + 1
            · rw [if_pos h4, show n - b = 0 by omega, ch_zero, ch_zero]; omega
            · rw [if_neg h4, show n + 1 - (b + 1) - 1 = n - b - 1 by omega]
              obtain ⟨d, hd⟩ : ∃ d, n - b = d + 1 := ⟨n - b - 1, by omega⟩
              rw [hd, show c + 1 + (n + 1) = (c + (n + 1)) + 1 by omega, ch, show d + 1 - 1 = d by omega]
              omega
/-- both ways of counting -/
theorem bal_gd (c n b : Nat) : balT (c : Int) (n : Int) (b : Int) = (gdN (c + n) c n b : Nat) := by
  unfold balT
  by_cases h : (c : Int) + b < n
  · rw [if_pos (by omega), gd_none _ c n b rfl (by omega)]; rfl
  · rw [if_neg (by omega), gd_fl _ c n b rfl (by omega)]
    unfold flN chI
    rw [if_neg (by omega), show ((c : Int) + n).toNat = c + n by omega, show ((n : Int)).toNat = n by omega]
    by_cases h2 : n ≤ b
    · rw [if_pos (show (n : Int) - b - 1 < 0 by omega), if_pos h2]
    · rw [if_neg (show ¬ (n : Int) - b - 1 < 0 by omega), if_neg h2, show ((n : Int) - b - 1).toNat = n - b - 1 by omega]
/-- those that begin with a coin, and those that begin with a note -/
theorem gd_step {c n b : Nat} (h : 0 < c + n) : gdN (c + n) c n b = (if 0 < c then gdN (c - 1 + n) (c - 1) n (b + 1) else 0) + (if 0 < n ∧ 0 < b then gdN (c + (n - 1)) c (n - 1) (b - 1) else 0) := by
  obtain ⟨s, hs⟩ : ∃ s, c + n = s + 1 := ⟨c + n - 1, by omega⟩
  rw [hs, gdN]
  congr 1
  · by_cases hc : 0 < c
    · rw [if_pos hc, if_pos hc, show c - 1 + n = s by omega]
    · rw [if_neg hc, if_neg hc]
  · by_cases hc : 0 < n ∧ 0 < b
    · rw [if_pos hc, if_pos hc, show c + (n - 1) = s by omega]
    · rw [if_neg hc, if_neg hc]
theorem bal_bound {m : Nat} (h : m ≤ 16) (k : Int) : 0 ≤ chI m k ∧ chI m k ≤ 65536 := by
  unfold chI
  split
  · omega
  · have h1 := ch_le m k.toNat
    have h2 : 2 ^ m ≤ 2 ^ 16 := Nat.pow_le_pow_right (by omega) h
    have h3 : (2 : Nat) ^ 16 = 65536 := by decide
    omega
end Go.Proofs.YtkbfmogjhjdjmaaDoor.Ti
/- choose, ballots, counted, Count, First. -/
namespace Go.Proofs.YtkbfmogjhjdjmaaDoor.Ti
open Go.RowKit
theorem ch_facts {m i : Nat} (hm : m ≤ 16) : ∃ e : Int, ((ch m i : Nat) : Int) * ((m : Int) - i) = e ∧ -2000000 ≤ e ∧ e ≤ 2000000 ∧ 0 ≤ e ∧ e / ((i : Int) + 1) = (ch m (i + 1) : Nat) ∧ Int.tdiv e ((i : Int) + 1) = (ch m (i + 1) : Nat) := by
  refine ⟨_, rfl, ?_, ?_, ?_, ch_div, ?_⟩
  all_goals
    have h1 := ch_le m i
    have h2 : 2 ^ m ≤ 2 ^ 16 := Nat.pow_le_pow_right (by omega) hm
    have h3 : (2 : Nat) ^ 16 = 65536 := by decide
    have hp : 0 ≤ ((ch m i : Nat) : Int) * ((m : Int) - i) := by
      rcases Nat.lt_or_ge m i with h | h
      · rw [ch_none m i h]; simp
      · exact Int.mul_nonneg (by omega) (by omega)
  · omega
  · rcases Nat.lt_or_ge m i with h | h
    · rw [ch_none m i h]; simp
    · have h4 : ch m i * (m - i) ≤ 65536 * 16 := Nat.mul_le_mul (by omega) (by omega)
      rw [show (m : Int) - i = ((m - i : Nat) : Int) by omega, ← Int.natCast_mul]
      omega
  · exact hp
  · rw [Int.tdiv_eq_ediv_of_nonneg hp]; exact ch_div
set_option maxRecDepth 100000 in
set_option maxHeartbeats 4000000 in
theorem choose_any (m : Nat) (k : Int) (hm : m ≤ 16) (hk : k ≤ 100) (w : World) : Calls Tryd.prog 78 #[.int .i64 m, .int .i64 k] w fun e w' => e = .returned (.int .i64 (chI m k)) ∧ w' = w := by
  by_cases h0 : k < 0
  · have hR := Lib.hid (show chI m k = 0 by unfold chI; rw [if_pos h0])
    go_enter Tryd.func78, Tryd.ntmps78
    go_wp2_with (fail)
    go_ret
    exact ⟨by rw [hR.out]; rfl, rfl⟩
  · obtain ⟨j, rfl⟩ : ∃ j : Nat, k = j := ⟨k.toNat, by omega⟩
    have hR := Lib.hid (show chI m (j : Int) = (ch m j : Nat) by unfold chI; rw [if_neg h0]; simp)
    have hji : (j : Int) ≤ 100 := hk
    have hmi : (m : Int) ≤ 16 := by omega
    go_enter Tryd.func78, Tryd.ntmps78
    go_wp2_with (fail)
    go_loopw [5, 10] (fun o v wr => ∃ i : Nat, i ≤ j ∧ v = .int .i64 i ∧ o = .int .i64 (ch m i : Nat) ∧ w = wr) (fun _ v _ => j - (intOf v).toNat)
    case atStart => exact ⟨0, by omega, rfl, by rw [ch_zero]; rfl, rfl⟩
    case round =>
      obtain ⟨i, hi, rfl, rfl, rfl⟩ := hrel
      by_cases hlt : i < j
      · have hlti : (i : Int) < j := by omega
        obtain ⟨e, he, e1, e2, e3, e4, e5⟩ := ch_facts (m := m) (i := i) hm
        obtain ⟨f, hf⟩ : ∃ f : Nat, i + 1 = f := ⟨_, rfl⟩
        have hfi : (i : Int) + 1 = f := by omega
        rw [hf] at e4 e5
        rw [hfi] at e4 e5
        have hf0 : ¬ f = 0 := by omega
        have hf1 : ((f : Int) == 0) = false := by simp; omega
        obtain ⟨d, hd⟩ : ∃ d : Int, (m : Int) - i = d := ⟨_, rfl⟩
        rw [hd] at he
        have hdb : -100 ≤ d ∧ d ≤ 100 := by omega
        obtain ⟨hd1, hd2⟩ := hdb
        obtain ⟨C, hC⟩ : ∃ C, ch m i = C := ⟨_, rfl⟩
        obtain ⟨C2, hC2⟩ : ∃ C, ch m f = C := ⟨_, rfl⟩
        have hC2H := Lib.hid hC2
        have hC2b : (C2 : Int) ≤ 65536 := by
          have h1 := ch_le m f
          have h2 : 2 ^ m ≤ 2 ^ 16 := Nat.pow_le_pow_right (by omega) hm
          have h3 : (2 : Nat) ^ 16 = 65536 := by decide
          omega
        rw [hC] at he ⊢
        rw [hC2] at e4 e5
        clear hC hC2 hf
        go_wp2_with (fail)
        go_roundw
        case rel => exact ⟨f, by omega, by go_num, by rw [hC2H.out], by first | rfl | trivial⟩
        case measure => simp only [intOf]; omega
      · have hlti : ¬ (i : Int) < j := by omega
        obtain rfl : i = j := by omega
        go_wp2_with (fail)
        go_ret
        exact ⟨by rw [hR.out]; rfl, rfl⟩
set_option maxRecDepth 100000 in
set_option maxHeartbeats 4000000 in
theorem ballots_any (c n b : Int) (h1 : -10 ≤ c ∧ c ≤ 16) (h2 : -10 ≤ n ∧ n ≤ 16) (h3 : c + n ≤ 16) (h4 : -30 ≤ b ∧ b ≤ 60) (w : World) : Calls Tryd.prog 68 #[.int .i64 c, .int .i64 n, .int .i64 b] w fun e w' => e = .returned (.int .i64 (balT c n b)) ∧ w' = w := by
  by_cases hc : c < 0
  · have hR := Lib.hid (show balT c n b = 0 by unfold balT; rw [if_pos (Or.inl hc)])
    go_enter Tryd.func68, Tryd.ntmps68
    go_wp2_with (fail)
    go_ret
    exact ⟨by rw [hR.out]; rfl, rfl⟩
  · have hci : decide (c < 0) = false := by simp; omega
    by_cases hn : n < 0
    · have hR := Lib.hid (show balT c n b = 0 by unfold balT; rw [if_pos (Or.inr (Or.inl hn))])
      go_enter Tryd.func68, Tryd.ntmps68
      go_wp2_with (fail)
      go_ret
      exact ⟨by rw [hR.out]; rfl, rfl⟩
    · have hni : decide (n < 0) = false := by simp; omega
      obtain ⟨t, ht⟩ : ∃ t, c + b = t := ⟨_, rfl⟩
      by_cases hcb : t < n
      · have hR := Lib.hid (show balT c n b = 0 by unfold balT; rw [if_pos (Or.inr (Or.inr (by omega)))])
        go_enter Tryd.func68, Tryd.ntmps68
        go_wp2_with (fail)
        go_ret
        exact ⟨by rw [hR.out]; rfl, rfl⟩
      · have hti : decide (t < n) = false := by simp; omega
        obtain ⟨m, hm⟩ : ∃ m : Nat, c + n = m := ⟨(c + n).toNat, by omega⟩
        have hm16 : m ≤ 16 := by omega
        have hR := Lib.hid (show balT c n b = chI m n - chI m (n - b - 1) by unfold balT; rw [if_neg (by omega), hm]; rfl)
        obtain ⟨q, hq⟩ : ∃ q, n - b = q := ⟨_, rfl⟩
        obtain ⟨r, hr⟩ : ∃ r, q - 1 = r := ⟨_, rfl⟩
        rw [hq, hr] at hR
        have hA := Lib.hid (fun w' => choose_any m n hm16 (by omega) w')
        have hB := Lib.hid (fun w' => choose_any m r hm16 (by omega) w')
        obtain ⟨b1, b2⟩ := bal_bound hm16 n
        obtain ⟨b3, b4⟩ := bal_bound hm16 r
        obtain ⟨X, hX⟩ : ∃ X, chI m n = X := ⟨_, rfl⟩
        obtain ⟨Y, hY⟩ : ∃ Y, chI m r = Y := ⟨_, rfl⟩
        rw [hX, hY] at hR
        rw [hX] at hA b1 b2
        rw [hY] at hB b3 b4
        rw [hR.out]
        clear hX hY
        go_enter Tryd.func68, Tryd.ntmps68
        go_wp2_with (first
          | (go_at_call 78; (with_reducible refine (hA.out _).mono ?_); rintro e w1 ⟨rfl, rfl⟩)
          | (go_at_call 78; (with_reducible refine (hB.out _).mono ?_); rintro e w1 ⟨rfl, rfl⟩))
        go_ret
        exact ⟨rfl, rfl⟩
/-- the error of numbers of customers and coins -/
def cntE (c n b : Int) : Int := if c < 0 ∨ n < 0 ∨ 16 < c ∨ 16 < n ∨ 16 < c + n then 1 else if 0 ≤ b ∧ b ≤ 20 then 0 else 1
def cntV (c n b : Int) : Int := if cntE c n b = 0 then balT c n b else 0
theorem cntE_zero {c n b : Int} (h : cntE c n b = 0) : 0 ≤ c ∧ 0 ≤ n ∧ c + n ≤ 16 ∧ 0 ≤ b ∧ b ≤ 20 := by
  unfold cntE at h
  split at h
  · omega
  · split at h
    · omega
    · omega
set_option maxRecDepth 100000 in
set_option maxHeartbeats 4000000 in
theorem counted_any (c n b : Int) (w : World) : Calls Tryd.prog 62 #[.int .i64 c, .int .i64 n, .int .i64 b] w fun e w' => e = .returned (.tuple #[.int .i64 (cntV c n b), .int .i64 (cntE c n b)]) ∧ w' = w := by
  obtain ⟨mn, hmn⟩ : ∃ mn, min c n = mn := ⟨_, rfl⟩
  obtain ⟨mx, hmx⟩ : ∃ mx, max c n = mx := ⟨_, rfl⟩
  by_cases h1 : mn < 0
  · have hE := Lib.hid (show cntE c n b = 1 by unfold cntE; rw [if_pos (by omega)])
    have hV := Lib.hid (show cntV c n b = 0 by unfold cntV; rw [hE.out]; simp)
    rw [hE.out, hV.out]
    go_enter Tryd.func62, Tryd.ntmps62
    go_wp2_with (fail)
    go_ret2
    exact ⟨rfl, rfl⟩
  · have h1i : decide (mn < 0) = false := by simp; omega
    by_cases h2 : 16 < mx
    · have hE := Lib.hid (show cntE c n b = 1 by unfold cntE; rw [if_pos (by omega)])
      have hV := Lib.hid (show cntV c n b = 0 by unfold cntV; rw [hE.out]; simp)
      rw [hE.out, hV.out]
      go_enter Tryd.func62, Tryd.ntmps62
      go_wp2_with (fail)
      go_ret2
      exact ⟨rfl, rfl⟩
    · have h2i : decide (16 < mx) = false := by simp; omega
      have hcn : (0 ≤ c ∧ 0 ≤ n) ∧ (c ≤ 16 ∧ n ≤ 16) := by omega
      obtain ⟨⟨c0, n0⟩, c16, n16⟩ := hcn
      obtain ⟨t, ht⟩ : ∃ t, c + n = t := ⟨_, rfl⟩
      by_cases h3 : 16 < t
      · have hE := Lib.hid (show cntE c n b = 1 by unfold cntE; rw [if_pos (by omega)])
        have hV := Lib.hid (show cntV c n b = 0 by unfold cntV; rw [hE.out]; simp)
        rw [hE.out, hV.out]
        go_enter Tryd.func62, Tryd.ntmps62
        go_wp2_with (fail)
        go_ret2
        exact ⟨rfl, rfl⟩
      · have h3i : decide (16 < t) = false := by simp; omega
        obtain ⟨q, hq⟩ : ∃ q, decide ((0 : Int) ≤ b ∧ b ≤ 20) = q := ⟨_, rfl⟩
        have hqH := Lib.hid hq
        cases q with
        | true =>
          have hb : 0 ≤ b ∧ b ≤ 20 := by simpa using hq
          have hE := Lib.hid (show cntE c n b = 0 by unfold cntE; rw [if_neg (by omega), if_pos hb])
          have hV := Lib.hid (show cntV c n b = balT c n b by unfold cntV; rw [if_pos hE.out])
          have hbl := Lib.hid (fun w' => ballots_any c n b (by omega) (by omega) (by omega) (by omega) w')
          rw [hE.out, hV.out]
          clear hq
          go_enter Tryd.func62, Tryd.ntmps62
          go_wp2_with (first
            | (go_at_call 67; (with_reducible refine (between_any _ _ _ _).mono ?_); rintro e w2 ⟨rfl, rfl⟩; rw [hqH.out])
            | (go_at_call 68; (with_reducible refine (hbl.out _).mono ?_); rintro e w2 ⟨rfl, rfl⟩))
          go_ret2
          exact ⟨rfl, rfl⟩
        | false =>
          have hb : ¬ (0 ≤ b ∧ b ≤ 20) := by simpa using hq
          have hE := Lib.hid (show cntE c n b = 1 by unfold cntE; rw [if_neg (by omega), if_neg hb])
          have hV := Lib.hid (show cntV c n b = 0 by unfold cntV; rw [hE.out]; simp)
          rw [hE.out, hV.out]
          clear hq
          go_enter Tryd.func62, Tryd.ntmps62
          go_wp2_with (first
            | (go_at_call 67; (with_reducible refine (between_any _ _ _ _).mono ?_); rintro e w2 ⟨rfl, rfl⟩; rw [hqH.out]))
          go_ret2
          exact ⟨rfl, rfl⟩
set_option maxRecDepth 100000 in
set_option maxHeartbeats 1000000 in
theorem Count_any (c n b : Int) (w : World) : Calls Tryd.prog 54 #[.int .i64 c, .int .i64 n, .int .i64 b] w fun e w' => e = .returned (.tuple #[.int .i64 (cntV c n b), .int .i64 (cntE c n b)]) ∧ w' = w := by
  go_enter Tryd.func54, Tryd.ntmps54
  go_wp2_with (first
    | (go_at_call 62; (with_reducible refine (counted_any _ _ _ _).mono ?_); rintro e w2 ⟨rfl, rfl⟩))
  go_ret2
  exact ⟨rfl, rfl⟩
/-- what First returns -/
def firE (c n b : Int) : Int := if cntE c n b ≠ 0 then cntE c n b else if balT c n b = 0 then 12 else 0
def firV (c n b : Int) : Word := if firE c n b = 0 then List.replicate c.toNat 99 ++ List.replicate n.toNat 110 else []
theorem rep_one (x : UInt8) (k : Nat) : Lib.repeatL [x] k = List.replicate k x := by
  induction k with
  | zero => rfl
  | succ k ih => rw [Lib.repeatL, ih, List.replicate_succ]; rfl
end Go.Proofs.YtkbfmogjhjdjmaaDoor.Ti
/- At: the good order with a number. -/
namespace Go.Proofs.YtkbfmogjhjdjmaaDoor.Ti
open Go.RowKit
/-- how many go on with a coin -/
def gcN (c n b : Nat) : Nat := if 0 < c then gdN (c - 1 + n) (c - 1) n (b + 1) else 0
/-- the good order with a number -/
def atN : Nat → Nat → Nat → Nat → Nat → Word
  | 0, _, _, _, _ => []
  | s + 1, c, n, b, k => if k < gcN c n b then 99 :: atN s (c - 1) n (b + 1) k else 110 :: atN s c (n - 1) (b - 1) (k - gcN c n b)
theorem bal_gc (c n b : Nat) : balT ((c : Int) - 1) (n : Int) ((b : Int) + 1) = (gcN c n b : Nat) := by
  unfold gcN
  by_cases hc : 0 < c
  · rw [if_pos hc, show (c : Int) - 1 = ((c - 1 : Nat) : Int) by omega, show (b : Int) + 1 = ((b + 1 : Nat) : Int) by omega, bal_gd]
  · rw [if_neg hc]
    unfold balT
    rw [if_pos (by omega)]
    rfl
theorem gc_pos {c n b k : Nat} (h : k < gcN c n b) : 0 < c ∧ k < gdN (c - 1 + n) (c - 1) n (b + 1) := by
  unfold gcN at h
  split at h
  · exact ⟨by assumption, h⟩
  · omega
theorem gc_neg {c n b k : Nat} (h0 : 0 < c + n) (hk : k < gdN (c + n) c n b) (h : ¬ k < gcN c n b) : 0 < n ∧ 0 < b ∧ k - gcN c n b < gdN (c + (n - 1)) c (n - 1) (b - 1) := by
  rw [gd_step h0] at hk
  have e : (if 0 < c then gdN (c - 1 + n) (c - 1) n (b + 1) else 0) = gcN c n b := rfl
  rw [e] at hk
  split at hk
  · rename_i h2
    exact ⟨h2.1, h2.2, by omega⟩
  · omega
theorem bal_le {c n : Nat} (h : c + n ≤ 16) (b : Nat) : gdN (c + n) c n b ≤ 65536 := by
  have h1 := bal_gd c n b
  unfold balT at h1
  have h2 := bal_bound (m := ((c : Int) + n).toNat) (by omega) (n : Int)
  have h3 := bal_bound (m := ((c : Int) + n).toNat) (by omega) ((n : Int) - b - 1)
  split at h1 <;> omega
def atE (c n b k : Int) : Int := if cntE c n b ≠ 0 then cntE c n b else if 0 ≤ k ∧ k < balT c n b then 0 else 1
def atV (c n b k : Int) : Word := if atE c n b k = 0 then atN (c.toNat + n.toNat) c.toNat n.toNat b.toNat k.toNat else []
end Go.Proofs.YtkbfmogjhjdjmaaDoor.Ti
/- Number. -/
namespace Go.Proofs.YtkbfmogjhjdjmaaDoor.Ti
open Go.RowKit
/-- the number of an order: those that are smaller, customer by customer -/
def numT : Word → Int → Int → Int → Int
  | [], _, _, _ => 0
  | y :: l, c, n, b => if y = 99 then numT l (c - 1) n (b + 1) else balT (c - 1) n (b + 1) + numT l c (n - 1) (b - 1)
theorem balT_bound {c n : Int} (h : c + n ≤ 16) (b : Int) : -65536 ≤ balT c n b ∧ balT c n b ≤ 65536 := by
  unfold balT
  split
  · omega
  · have h1 := bal_bound (m := (c + n).toNat) (by omega) n
    have h2 := bal_bound (m := (c + n).toNat) (by omega) (n - b - 1)
    omega
def numV (l : Word) (b : Int) : Int := if opT l b = 0 ∧ lacksT l b < 0 then numT l (l.count 99 : Nat) ((l.length : Int) - (l.count 99 : Nat)) b else 0
end Go.Proofs.YtkbfmogjhjdjmaaDoor.Ti
/- Turns. -/
namespace Go.Proofs.YtkbfmogjhjdjmaaDoor.Ti
open Go.RowKit
/-- coins ahead of a place -/
def befT (L : List Int) (k : Nat) : Int := if k = 0 then 0 else L.getD (k - 1) 0
def turnP (L : List Int) (n : Nat) (keep : Int) (k : Nat) : Bool := decide (keep ≤ Lib.minOf ((L.drop k).take n) - befT L k)
def turnN (L : List Int) (n : Nat) (keep : Int) (m : Nat) : List Int := ((List.range m).filter (turnP L n keep)).map fun k : Nat => (k : Int)
def turnL (l : Word) (keep : Int) : List Int := if opT l keep = 0 then turnN (stepsT 0 (l ++ l)) l.length keep l.length else []
theorem turnN_succ (L : List Int) (n : Nat) (keep : Int) (m : Nat) : turnN L n keep (m + 1) = turnN L n keep m ++ (if turnP L n keep m then [(m : Int)] else []) := by
  unfold turnN
  rw [List.range_succ, List.filter_append, List.map_append]
  congr 1
  by_cases h : turnP L n keep m = true
  · simp [h]
  · simp [h]
theorem turnN_len (L : List Int) (n : Nat) (keep : Int) (m : Nat) : (turnN L n keep m).length ≤ m := by
  unfold turnN
  rw [List.length_map]
  exact Nat.le_trans (List.length_filter_le _ _) (by simp)
theorem minOf_bound {l : List Int} {a b : Int} (hne : 0 < l.length) (h : ∀ x ∈ l, a ≤ x ∧ x ≤ b) : a ≤ Lib.minOf l ∧ Lib.minOf l ≤ b := by
  have key : ∀ (m : List Int) (z : Int), (a ≤ z ∧ z ≤ b) → (∀ x ∈ m, a ≤ x ∧ x ≤ b) → a ≤ m.foldl min z ∧ m.foldl min z ≤ b := by
    intro m
    induction m with
    | nil => intro z hz _; exact hz
    | cons y m ih =>
      intro z hz hm
      have hy := hm y (by simp)
      exact ih (min z y) (by omega) (fun x hx => hm x (by simp [hx]))
  cases l with
  | nil => simp at hne
  | cons y l => exact key (y :: l) y (h y (by simp)) h
end Go.Proofs.YtkbfmogjhjdjmaaDoor.Ti
/- A list of pairs that the call itself makes; a heap of ints whose top is cut off. -/
namespace Go.Proofs.YtkbfmogjhjdjmaaDoor.Ti
open Go.RowKit
/-- a list of pairs that the call itself makes -/
def pairsV (ps : List (Nat × Nat)) : List Value := ps.flatMap fun p => [.int .i64 (p.1 : Nat), .int .i64 (p.2 : Nat)]
def OwnP (w : World) (base : Nat) (v : Value) (ps : List (Nat × Nat)) : Prop := w.ownsRow base 37 2 v ps.length (pairsV ps)
theorem infoPair : (Tryd.prog.info? 37).map (fun i => (i.zero, i.size, i.bytes)) = some (some (.agg #[.int .i64 0, .int .i64 0]), 2, 16) := by kernel_rfl
theorem OwnP.nil (w : World) (base : Nat) : OwnP w base (.slice none 0 0) [] := World.ownsRow_nil _ _ _ _
theorem OwnP.keep {w w' : World} {base : Nat} {v : Value} {ps : List (Nat × Nat)} (h : OwnP w base v ps) (hk : ∀ g, v.ownBlock = some g → w'.heap[g]? = w.heap[g]?) : OwnP w' base v ps := by
  refine ⟨h.1, ?_⟩
  rcases h.2 with h0 | ⟨g, cap, cur, rfl, hb, hg, r⟩
  · exact .inl h0
  · exact .inr ⟨g, cap, cur, rfl, hb, (hk g rfl).trans hg, r⟩
theorem OwnP.ge {w : World} {base : Nat} {v : Value} {ps : List (Nat × Nat)} (h : OwnP w base v ps) {g : Nat} (hg : v.ownBlock = some g) : base ≤ g := (World.ownsRow.lt h g hg).1
theorem OwnP.lt {w : World} {base : Nat} {v : Value} {ps : List (Nat × Nat)} (h : OwnP w base v ps) {g : Nat} (hg : v.ownBlock = some g) : g < w.heap.size := (World.ownsRow.lt h g hg).2
theorem OwnP.callee {w w' : World} {base : Nat} {v : Value} {ps : List (Nat × Nat)} (h : OwnP w base v ps) (hb : Below w.heap.size w w') : OwnP w' base v ps := h.keep fun g hg => hb.block g (h.lt hg)
theorem OwnP.none_ {w w' : World} {base : Nat} {v : Value} {ps : List (Nat × Nat)} (h : OwnP w base v ps) (hb : w.grownBy w' none) : OwnP w' base v ps := h.keep fun g hg => hb.block g (h.lt hg) (by simp)
theorem OwnP.form {w : World} {base : Nat} {v : Value} {ps : List (Nat × Nat)} (h : OwnP w base v ps) : ∃ A c, v = .slice A ps.length c := by
  rcases h.2 with ⟨rfl, h0⟩ | ⟨g, cap, cur, rfl, _⟩
  · exact ⟨none, 0, by rw [h0]⟩
  · exact ⟨_, _, rfl⟩
theorem OwnP.rebase {w : World} {b b' : Nat} {v : Value} {xs : List (Nat × Nat)} (h : OwnP w b v xs) (hb : b' ≤ b) : OwnP w b' v xs := by
  refine ⟨h.1, ?_⟩
  rcases h.2 with h0 | ⟨g, cap, cur, rfl, hg, r⟩
  · exact .inl h0
  · exact .inr ⟨g, cap, cur, rfl, Nat.le_trans hb hg, r⟩
/-- what lies at the block of an own list of pairs -/
theorem OwnP.block {w : World} {base g : Nat} {v : Value} {ps : List (Nat × Nat)} (h : OwnP w base v ps) (hg : v.ownBlock = some g) : ∃ cs, w.heap[g]? = some (.cells cs 37 (0, 0)) := by
  rcases h.2 with ⟨rfl, _⟩ | ⟨g', cap, cur, rfl, _, hg', _⟩
  · simp [Value.ownBlock] at hg
  · obtain rfl : g' = g := by simpa [Value.ownBlock] using hg
    exact ⟨cur, hg'⟩
theorem wpList_pushP {w : World} {base : Nat} {v : Value} {ps : List (Nat × Nat)} {ops : Array Oper} {rest : List Oper} {o : Oper} {a : Act} {Q : Exit → Act → World → Prop} (hgd : o.guard = none) (s x : Operand)
    (ho : o.op = .call { callee := .builtin .append, args := #[s, x], argTypes := #[31, 31] }) (hs : a.eval s = v) (hown : OwnP w base v ps)
    (B c : Nat) (y z : Nat) (hx : a.eval x = .slice (some ⟨B, 0, none⟩) 1 c) (hB : Blk w B 37 #[.int .i64 (y : Nat), .int .i64 (z : Nat)]) (hlen : ps.length ≤ 1000000000) (hbase : base ≤ w.heap.size)
    (h : ∀ (v' : Value) (w' : World), OwnP w' base v' (ps ++ [(y, z)]) → w.grownBy w' v.ownBlock → wpList Tryd.prog ops Q rest (a.put o.dst v') w') : wpList Tryd.prog ops Q (o :: rest) a w := by
  obtain ⟨i0, hi0, hz0, hz1, hz2⟩ := info_parts infoPair
  refine wpList_append_lies w hgd s x 31 ho base 37 i0 (.agg #[.int .i64 0, .int .i64 0]) 2 16 Tryd.underlying31 hi0 hz0 hz1 hz2 rfl (by decide) v ps.length (pairsV ps) hs hown ⟨B, 0, none⟩ 1 c [.int .i64 (y : Nat), .int .i64 (z : Nat)] hx rfl
    (World.news_of_block hB) (by simp [Value.oneCell']) (by decide) (by simp only [maxLen]; omega) (by omega) hbase _ rfl ?_
  intro g cap w' hown' hgr hat hlt
  refine h _ w' ?_ hgr
  unfold OwnP
  have e : pairsV (ps ++ [(y, z)]) = pairsV ps ++ [.int .i64 (y : Nat), .int .i64 (z : Nat)] := by simp [pairsV]
  rw [e, List.length_append]
  exact hown'
/-- a heap of ints: an own list, or one whose top was cut off -/
def Stk (w : World) (base : Nat) (v : Value) (xs : List Int) : Prop :=
  OwnI w base v xs ∨ ∃ g cs, v = .slice (some ⟨g, 0, none⟩) xs.length xs.length ∧ base ≤ g ∧ w.heap[g]? = some (.cells cs 3 (0, 0)) ∧ ∀ j, j < xs.length → cs[j]? = some (.int .i64 (xs.getD j 0))
theorem Stk.keep {w w' : World} {base : Nat} {v : Value} {xs : List Int} (h : Stk w base v xs) (hk : ∀ g cs, w.heap[g]? = some (.cells cs 3 (0, 0)) → base ≤ g → w'.heap[g]? = w.heap[g]?) : Stk w' base v xs := by
  rcases h with h | ⟨g, cs, rfl, hb, hg, r⟩
  · refine Or.inl (h.keep fun g hg => ?_)
    have hge := h.ge hg
    rcases h.2 with ⟨rfl, _⟩ | ⟨g', cap, cur, rfl, _, hg', _⟩
    · simp [Value.ownBlock] at hg
    · obtain rfl : g' = g := by simpa [Value.ownBlock] using hg
      exact hk _ _ hg' hge
  · exact Or.inr ⟨g, cs, rfl, hb, (hk g cs hg hb).trans hg, r⟩
theorem Stk.len {w : World} {base : Nat} {v : Value} {xs : List Int} (h : Stk w base v xs) : ∃ A c, v = .slice A xs.length c := by
  rcases h with h | ⟨g, cs, rfl, _⟩
  · obtain ⟨A, c, e, _⟩ := h.reads
    exact ⟨A, c, e⟩
  · exact ⟨_, _, rfl⟩
theorem Stk.pop {w : World} {base : Nat} {v : Value} {xs : List Int} {y : Int} (h : Stk w base v (xs ++ [y])) : ∃ g c, v = .slice (some ⟨g, 0, none⟩) (xs.length + 1) c ∧ xs.length + 1 ≤ c ∧ w.cell? ⟨g, xs.length, none⟩ = some (.int .i64 y) ∧
    Stk w base (.slice (some ⟨g, 0, none⟩) xs.length xs.length) xs := by
  rcases h with h | ⟨g, cs, rfl, hb, hg, r⟩
  · rcases h.2 with ⟨_, h0⟩ | ⟨g, cap, cur, rfl, hb, hg, hc, hm, hsz, htk⟩
    · simp at h0
    · have hcur : ∀ j, j < (xs ++ [y]).length → cur[j]? = some (.int .i64 ((xs ++ [y]).getD j 0)) := by
        intro j hj
        have h2 := ints_get (xs ++ [y]) j hj
        rw [← htk, List.getElem?_take, if_pos (by omega)] at h2
        simpa using h2
      refine ⟨g, cap, by simp, by simpa using hc, ?_, Or.inr ⟨g, cur, rfl, hb, hg, fun j hj => ?_⟩⟩
      · rw [cell_of_row w g _ cur _ _ hg, hcur _ (by simp)]
        simp [List.getD]
      · rw [hcur j (by simp; omega)]
        simp [List.getD, List.getElem?_append_left hj]
  · refine ⟨g, xs.length + 1, by simp, Nat.le_refl _, ?_, Or.inr ⟨g, cs, rfl, hb, hg, fun j hj => ?_⟩⟩
    · rw [cell_of_row w g _ cs _ _ hg, r _ (by simp)]
      simp [List.getD]
    · rw [r j (by simp; omega)]
      simp [List.getD, List.getElem?_append_left hj]
theorem wpList_pushK {w : World} {base : Nat} {v : Value} {xs : List Int} {ops : Array Oper} {rest : List Oper} {o : Oper} {a : Act} {Q : Exit → Act → World → Prop} (hgd : o.guard = none) (s x : Operand)
    (ho : o.op = .call { callee := .builtin .append, args := #[s, x], argTypes := #[38, 38] }) (hs : a.eval s = v) (hown : Stk w base v xs)
    (B c : Nat) (y : Int) (hx : a.eval x = .slice (some ⟨B, 0, none⟩) 1 c) (hB : Blk w B 3 #[.int .i64 y]) (hlen : xs.length ≤ 1000000000) (hbase : base ≤ w.heap.size)
    (h : ∀ (v' : Value) (w' : World) (row : Option Nat), Stk w' base v' (xs ++ [y]) → w.grownBy w' row → (∀ g, row = some g → base ≤ g ∧ ∃ cs, w.heap[g]? = some (.cells cs 3 (0, 0))) → wpList Tryd.prog ops Q rest (a.put o.dst v') w') : wpList Tryd.prog ops Q (o :: rest) a w := by
  rcases hown with hown | ⟨g, cs, hv, hb, hg, hc⟩
  · refine wpList_push hgd s x ho hs hown B c y hx hB hlen hbase fun g cap w' h2 h3 _ _ => h _ w' _ (Or.inl (by simpa using h2)) h3 fun k hk => ⟨hown.ge hk, ?_⟩
    rcases hown.2 with ⟨rfl, _⟩ | ⟨g', cap, cur, rfl, _, hg', _⟩
    · simp [Value.ownBlock] at hk
    · obtain rfl : g' = k := by simpa [Value.ownBlock] using hk
      exact ⟨cur, hg'⟩
  · obtain ⟨i0, hi0, hz0, hz1, hz2⟩ := info_parts infoInt
    refine wpList_append_grows w hgd s x 38 ho 3 i0 (.int .i64 0) 1 8 Tryd.underlying38 hi0 hz0 hz1 hz2 rfl (by decide) (some ⟨g, 0, none⟩) xs.length xs.length (ints xs) (by rw [hs, hv]) (fun e => by cases e) (by rw [ints_length, Nat.mul_one]) ?_
      ⟨B, 0, none⟩ 1 c [.int .i64 y] hx rfl (World.news_of_block hB) (by simp [Value.oneCell']) (by omega) (by simp only [maxLen]; omega) (by omega) ?_
    · intro b e j u hu
      obtain rfl : (⟨g, 0, none⟩ : Addr) = b := by injection e
      have hj : j < xs.length := by
        have := (List.getElem?_eq_some_iff.1 hu).1
        rwa [ints_length] at this
      rw [ints_get xs j hj] at hu
      have e2 : (⟨g, 0, none⟩ : Addr).add j = ⟨g, j, none⟩ := by unfold Addr.add; split <;> simp_all
      rw [e2, cell_of_row w g j cs _ _ hg, hc j hj, hu]
    · intro v' w' h1 h2
      refine h v' w' none (Or.inl ?_) h2 (fun g hg => by cases hg)
      have h3 : OwnI w' w.heap.size v' (xs ++ [y]) := by
        unfold OwnI
        rw [ints_append, List.length_append]
        exact h1
      exact h3.rebase hbase
end Go.Proofs.YtkbfmogjhjdjmaaDoor.Ti
/- Pairs. -/
namespace Go.Proofs.YtkbfmogjhjdjmaaDoor.Ti
open Go.RowKit
/-- whose coins go back to whom: places of coins lie on a heap -/
def pairT : Word → Nat → List Nat → List (Nat × Nat)
  | [], _, _ => []
  | y :: l, i, st => if y = 99 then pairT l (i + 1) (st ++ [i]) else (st.getLastD 0, i) :: pairT l (i + 1) st.dropLast
def pairL (l : Word) : List (Nat × Nat) := if chkT l = 0 ∧ lacksT l 0 < 0 then pairT l 0 [] else []
def pairE (l : Word) : Int := if chkT l ≠ 0 then chkT l else if lacksT l 0 < 0 then 0 else 14
def RetPE (xs : List (Nat × Nat)) (err : Int) (w : World) (e : Ending) (w' : World) : Prop := ∃ v, e = .returned (.tuple #[v, .int .i64 err]) ∧ OwnP w' w.heap.size v xs ∧ Below w.heap.size w w'
theorem negI_all {xs : List Int} : ∀ i : Nat, negI xs i < 0 → ∀ x ∈ xs, 0 ≤ x := by
  induction xs with
  | nil => intro i _ x hx; cases hx
  | cons y xs ih =>
    intro i h x hx
    rw [negI] at h
    split at h
    · omega
    · rcases List.mem_cons.1 hx with rfl | hx
      · omega
      · exact ih (i + 1) h x hx
theorem lacks_end {l : Word} {b : Int} (h : lacksT l b < 0) {i : Nat} (hi : i < l.length) : 0 ≤ endT b (l.take (i + 1)) :=
  negI_all 0 h _ (List.mem_of_getElem? (steps_get l b i hi))
def nats (l : List Nat) : List Int := l.map fun k : Nat => (k : Int)
end Go.Proofs.YtkbfmogjhjdjmaaDoor.Ti
