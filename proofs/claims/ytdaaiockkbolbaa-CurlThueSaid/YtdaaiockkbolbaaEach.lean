/- The function values that are handed to walk: those of Next, Longer, Count. -/
import Derived.Test.YtdaaiockkbolbaaWalk
import Derived.Test.YtdaaiockkbolbaaBuild
namespace Go.Proofs.Ytdaaiockkbolbaa
open Go.RowKit
theorem Row8.last {w : World} {v : Value} {og : Option Nat} {x : Word} (h : Row8 w v og x) (h1 : 1 ≤ x.length) : ∃ (A : Addr) (cap k : Nat) (c : UInt8), v = .slice (some A) x.length cap ∧ (x.length : Int) - 1 = k ∧ k < x.length ∧ x.getLast? = some c ∧ w.cell? (A.add k) = some (.int .u8 (c.toNat : Int)) := by
  obtain ⟨A, cap, rfl, h2, h3, h4, h5⟩ := h
  cases og with
  | none =>
    obtain ⟨rfl, rfl⟩ := h4 rfl
    omega
  | some g =>
    obtain ⟨off, cs, rfl, e2, e3, e4⟩ := h5 g rfl
    obtain ⟨k, hk⟩ : ∃ k, x.length = k + 1 := ⟨x.length - 1, by omega⟩
    obtain ⟨c, hc⟩ : ∃ c, x[k]? = some c := ⟨_, List.getElem?_eq_getElem (by omega)⟩
    refine ⟨_, cap, k, c, rfl, by omega, by omega, by rw [List.getLast?_eq_getElem?, hk]; exact hc, ?_⟩
    rw [Addr.add_lit, e2.cell]
    exact e4 k c hc
/-- Next's: the last letter goes behind those that are there -/
def stepN (s : Word) (x : Word) : Bool × Word := (true, s ++ [x.getLast?.getD 0])
set_option maxRecDepth 100000 in
set_option maxHeartbeats 4000000 in
theorem nextEach_call (b : Nat) (O : Nat → Prop) (s : Word) (w : World) (v : Value) (og : Option Nat) (x : Word) (hI : BldO b O s w) (hr : Row8 w v og x) (hx1 : 1 ≤ x.length) (hs : s.length ≤ 1000000) (hx : x.length ≤ 1000000) :
    Calls Try.prog 56 #[v, .pointer (some ⟨b, 0, none⟩)] w fun e w' => ∃ O', e = .returned (.bool true) ∧ BldO b O' (stepN s x).2 w' ∧ Fr O w w' ∧ ∀ i, O' i → O i ∨ w.heap.size ≤ i := by
  obtain ⟨A, cap, k, c, rfl, hk, hkl, hc, hcell⟩ := hr.last hx1
  have hst : (stepN s x).2 = s ++ [c] := by simp [stepN, hc]
  rw [hst]
  obtain ⟨n, hn⟩ : ∃ n, x.length = n := ⟨_, rfl⟩
  rw [hn] at hk hkl hx ⊢
  have hki : (k : Int) < n := by omega
  clear hn hst hc
  go_enter Try.func56, Try.ntmps56
  go_wp2_with (first
    | (go_at_call 57; refine (writeByte_fine b O s c _ hI hs).mono ?_; rintro e w1 ⟨O1, rfl, hI1, hF1, hO1⟩))
  go_ret
  exact ⟨O1, rfl, hI1, hF1, hO1⟩
/-- Longer's: the first word ends it -/
def stepL (_ : Option Word) (x : Word) : Bool × Option Word := (false, some x)
def outL : Option Word → Value
  | none => .string ⟨#[]⟩
  | some x => .string ⟨x.toArray⟩
def errL : Option Word → Value
  | none => .int .i64 12
  | some _ => .int .i64 0
def InL (p q : Nat) (s : Option Word) (w : World) : Prop := p ≠ q ∧ Blk w p 9 #[outL s] ∧ Blk w q 23 #[errL s]
set_option maxRecDepth 100000 in
set_option maxHeartbeats 4000000 in
theorem longerEach_call (p q : Nat) (s : Option Word) (w : World) (v : Value) (og : Option Nat) (x : Word) (hI : InL p q s w) (hr : Row8 w v og x) :
    Calls Try.prog 62 #[v, .pointer (some ⟨p, 0, none⟩), .pointer (some ⟨q, 0, none⟩)] w fun e w' => e = .returned (.bool false) ∧ InL p q (some x) w' ∧ Fr (fun i => i = p ∨ i = q) w w' := by
  obtain ⟨hpq, h1, h2⟩ := hI
  have hstr := hr.str 55 9 rfl rfl
  have c1 : w.cell? ⟨p, 0, none⟩ = some (outL s) := h1.cell 0
  have c2 : w.cell? ⟨q, 0, none⟩ = some (errL s) := h2.cell 0
  have f1 := h1.frozen 0
  have f2 := h2.frozen 0
  have hqp : q ≠ p := Ne.symm hpq
  go_enter Try.func62, Try.ntmps62
  go_wp2_with (fail)
  go_ret
  have hp := (h1.set_ 0 (.string ⟨x.toArray⟩)).far (p := ⟨q, 0, none⟩) hpq (.int .i64 0)
  have hq := (h2.far (p := ⟨p, 0, none⟩) hqp (.string ⟨x.toArray⟩)).set_ 0 (.int .i64 0)
  exact ⟨rfl, ⟨hpq, hp, hq⟩, rfl, rfl, rfl, by simp, fun i hi h => by
    rw [Below.heap_setCell _ _ _ i (fun e => h (Or.inr e)), Below.heap_setCell _ _ _ i (fun e => h (Or.inl e))]⟩
/-- Count's: one more -/
def stepC (s : Nat) (_ : Word) : Bool × Nat := (true, s + 1)
set_option maxRecDepth 100000 in
set_option maxHeartbeats 4000000 in
theorem countEach_call (p : Nat) (s : Nat) (w : World) (v : Value) (hI : Blk w p 3 #[.int .i64 s]) (hs : s ≤ 1000000000) :
    Calls Try.prog 65 #[v, .pointer (some ⟨p, 0, none⟩)] w fun e w' => e = .returned (.bool true) ∧ Blk w' p 3 #[.int .i64 (s + 1 : Nat)] ∧ Fr (fun i => i = p) w w' := by
  have c0 : w.cell? ⟨p, 0, none⟩ = some (.int .i64 s) := hI.cell 0
  have hsi : (s : Int) ≤ 1000000000 := by omega
  have f0 := hI.frozen 0
  go_enter Try.func65, Try.ntmps65
  go_wp2_with (fail)
  go_ret
  exact ⟨rfl, hI.set_ 0 _, rfl, rfl, rfl, by simp, fun i hi h => Below.heap_setCell _ _ _ i h⟩
def nextEach (b n L : Nat) (h1 : 1 ≤ L) (hL : L ≤ 1000000) : Each 56 #[.pointer (some ⟨b, 0, none⟩)] n L 1000000 stepN where
  I := BldO b
  cost := List.length
  cost_step := fun s x => by simp [stepN]
  enters := enters_of Try.func56 (by kernel_rfl) rfl
  lt := fun O s w i h => h.lt i
  keep := fun O s w w' h _ hk => h.keep hk
  call := fun O s w v og x hI hr hx hl ho hc => nextEach_call b O s w v og x hI hr (by omega) (by omega) (by omega)
def longerEach (p q n L C : Nat) : Each 62 #[.pointer (some ⟨p, 0, none⟩), .pointer (some ⟨q, 0, none⟩)] n L C stepL where
  I := fun O s w => InL p q s w ∧ ∀ i, O i ↔ i = p ∨ i = q
  cost := fun _ => 0
  cost_step := fun s x => by simp
  enters := enters_of Try.func62 (by kernel_rfl) rfl
  lt := fun O s w i h hi => by
    rcases (h.2 i).1 hi with rfl | rfl
    · exact h.1.2.1.lt
    · exact h.1.2.2.lt
  keep := fun O s w w' h _ hk => ⟨⟨h.1.1, (hk p ((h.2 p).2 (Or.inl rfl))).trans h.1.2.1, (hk q ((h.2 q).2 (Or.inr rfl))).trans h.1.2.2⟩, h.2⟩
  call := fun O s w v og x hI hr hx hl ho hc => by
    refine (longerEach_call p q s w v og x hI.1 hr).mono ?_
    rintro e w' ⟨rfl, h1, h2⟩
    exact ⟨O, rfl, ⟨h1, hI.2⟩, ⟨h2.os, h2.tape, h2.output, h2.size, fun i hi h => h2.block i hi fun e => h ((hI.2 i).2 e)⟩, fun i h => Or.inl h⟩
def countEach (p n L : Nat) : Each 65 #[.pointer (some ⟨p, 0, none⟩)] n L 1000000000 stepC where
  I := fun O s w => Blk w p 3 #[.int .i64 (s : Nat)] ∧ ∀ i, O i ↔ i = p
  cost := id
  cost_step := fun s x => by simp [stepC]
  enters := enters_of Try.func65 (by kernel_rfl) rfl
  lt := fun O s w i h hi => by
    have := (h.2 i).1 hi
    subst this
    exact h.1.lt
  keep := fun O s w w' h _ hk => ⟨(hk p ((h.2 p).2 rfl)).trans h.1, h.2⟩
  call := fun O s w v og x hI hr hx hl ho hc => by
    have hs : s < 1000000000 := hc
    refine (countEach_call p s w v hI.1 (by omega)).mono ?_
    rintro e w' ⟨rfl, h1, h2⟩
    exact ⟨O, rfl, ⟨h1, hI.2⟩, ⟨h2.os, h2.tape, h2.output, h2.size, fun i hi h => h2.block i hi fun e => h ((hI.2 i).2 e)⟩, fun i h => Or.inl h⟩
end Go.Proofs.Ytdaaiockkbolbaa
