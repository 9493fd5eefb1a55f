/- The function value that against hands to walk. -/
import Derived.Test.YtdaaiockkbolbaaFits
import Derived.Test.YtdaaiockkbolbaaEach
namespace Go.Proofs.Ytdaaiockkbolbaa
open Go.RowKit
/-- against's: the first word that is a proof ends it -/
def stepA (ws : List ByteArray) (s x : Word) : Bool × Word := if cleanS (putS ws x) then (s.isEmpty, s) else (x.isEmpty, x)
abbrev strOf (x : Word) : Value := .string ⟨x.toArray⟩
set_option maxRecDepth 100000 in
set_option maxHeartbeats 4000000 in
theorem againstEach_call (g p : Nat) (A : Option Addr) (n c : Nat) (ws : List ByteArray) (B : Nat) (s : Word) (w : World) (v : Value) (og : Option Nat) (x : Word) (hG : Blk w g 38 #[.slice A n c]) (hr : RStrs w B A n ws) (hB : B ≤ w.heap.size)
    (hP : Blk w p 9 #[strOf s]) (hn : n ≤ 4) (hws : ∀ t ∈ ws, t.size ≤ 13) (hrow : Row8 w v og x) (hx3 : x.length ≤ 3) (hl : lettersS x (n : Int) = true) :
    Calls Try.prog 85 #[v, .pointer (some ⟨g, 0, none⟩), .pointer (some ⟨p, 0, none⟩)] w fun e w' => e = .returned (.bool (stepA ws s x).1) ∧ Blk w' p 9 #[strOf (stepA ws s x).2] ∧ Fr (fun i => i = p) w w' := by
  have hstr := hrow.str 55 9 rfl rfl
  have hput := Lib.hid (fun (w' : World) h1 h2 => put_any A n c ws ⟨x.toArray⟩ w' B h1 h2 hn hl (by show x.length ≤ _; omega) (fun t ht => by have := hws t ht; omega))
  have hpl := putS_len hws x
  have hcl := Lib.hid (fun w' => clean_any ⟨(putS ws x).toArray⟩ (by show (putS ws x).length ≤ _; have h2 : x.length * 13 ≤ 3 * 13 := Nat.mul_le_mul_right _ hx3; omega) w')
  have hcb : bts ⟨(putS ws x).toArray⟩ = putS ws x := rfl
  have hxb : bts ⟨x.toArray⟩ = x := rfl
  clear hws hpl hl
  cases hq : cleanS (putS ws x) with
  | true =>
    have hst : stepA ws s x = (s.isEmpty, s) := by rw [stepA, if_pos hq]
    rw [hst]
    have hqH := Lib.hid hq
    clear hst hq
    go_enter Try.func85, Try.ntmps85
    go_wp2_with (first
      | (with_reducible show wpList _ _ _ (⟨_, .load 38 _, _, _, _, _⟩ :: _) _ _
         refine wpList_load_blk rfl 38 _ rfl g rfl 38 #[.slice A n c] _ hG Try.underlying38 rfl (info_oneP _) ?_)
      | (go_at_call 68; refine (hput.out _ hB hr).mono ?_; rintro e w1 ⟨rfl, hb1⟩; rw [hxb])
      | (go_at_call 51; refine (hcl.out _).mono ?_; rintro e w2 ⟨rfl, hb2⟩; rw [hcb, hqH.out]
         have hb12 := hb1.trans (hb2.mono hb1.size)
         have hP2 := hP.callee hb12
         have cp := hP2.cell 0))
    go_ret
    exact ⟨rfl, hP2, hb12.os, hb12.tape, hb12.output, hb12.size, fun i hi _ => hb12.block i hi⟩
  | false =>
    have hst : stepA ws s x = (x.isEmpty, x) := by rw [stepA, if_neg (by rw [hq]; decide)]
    rw [hst]
    have hqH := Lib.hid hq
    clear hst hq
    go_enter Try.func85, Try.ntmps85
    go_wp2_with (first
      | (with_reducible show wpList _ _ _ (⟨_, .load 38 _, _, _, _, _⟩ :: _) _ _
         refine wpList_load_blk rfl 38 _ rfl g rfl 38 #[.slice A n c] _ hG Try.underlying38 rfl (info_oneP _) ?_)
      | (go_at_call 68; refine (hput.out _ hB hr).mono ?_; rintro e w1 ⟨rfl, hb1⟩; rw [hxb])
      | (go_at_call 51; refine (hcl.out _).mono ?_; rintro e w2 ⟨rfl, hb2⟩; rw [hcb, hqH.out]
         have hb12 := hb1.trans (hb2.mono hb1.size)
         have hP2 := hP.callee hb12
         have fp := hP2.frozen 0
         have cp : w2.cell? ⟨p, 0, none⟩ = some (strOf s) := hP2.cell 0
         have hstr2 := (hrow.same (w' := w2) (fun g hg => hb12.block g (hrow.lt hg))).str 55 9 rfl rfl))
    go_ret
    exact ⟨rfl, hP2.set_ 0 _, hb12.os, hb12.tape, hb12.output, by have := hb12.size; simpa using this, fun i hi h => (Below.heap_setCell _ _ _ i h).trans (hb12.block i hi)⟩
/-- what stands while against's walk is under way: the variable 'out', and all that lies ahead of it -/
def InA (W0 : World) (p : Nat) (s : Word) (w : World) : Prop := Blk w p 9 #[strOf s] ∧ ∀ i, i < p → w.heap[i]? = W0.heap[i]?
def againstEach (W0 : World) (g p : Nat) (A : Option Addr) (n c : Nat) (ws : List ByteArray) (B L : Nat) (hk : Blk W0 g 38 #[.slice A n c]) (hr : RStrs W0 B A n ws) (hBp : B ≤ p) (hgp : g < p) (hn : n ≤ 4) (hws : ∀ t ∈ ws, t.size ≤ 13) (hL : L ≤ 3) :
    Each 85 #[.pointer (some ⟨g, 0, none⟩), .pointer (some ⟨p, 0, none⟩)] n L 1000 (stepA ws) where
  I := fun O s w => InA W0 p s w ∧ ∀ i, O i ↔ i ≤ p
  cost := fun _ => 0
  cost_step := fun s x => by simp
  enters := enters_of Try.func85 (by kernel_rfl) rfl
  lt := fun O s w i h hi => by
    have h1 := (h.2 i).1 hi
    have h2 := h.1.1.lt
    omega
  keep := fun O s w w' h _ hk => ⟨⟨(hk p ((h.2 p).2 (Nat.le_refl _))).trans h.1.1, fun i hi => (hk i ((h.2 i).2 (by omega))).trans (h.1.2 i hi)⟩, h.2⟩
  call := fun O s w v og x hI hrow hx hl ho hc => by
    have hplt := hI.1.1.lt
    refine (againstEach_call g p A n c ws B s w v og x ((hI.1.2 g hgp).trans hk) (hr.keep fun q hq => World.cell?_of_block (hI.1.2 q.block (by omega))) (by omega) hI.1.1 hn hws hrow (by omega) hl).mono ?_
    rintro e w' ⟨rfl, h1, h2⟩
    exact ⟨O, rfl, ⟨⟨h1, fun i hi => (h2.block i (by omega) (by omega)).trans (hI.1.2 i hi)⟩, hI.2⟩, ⟨h2.os, h2.tape, h2.output, h2.size, fun i hi h => h2.block i hi fun e => h ((hI.2 i).2 (by omega))⟩, fun i h => Or.inl h⟩
end Go.Proofs.Ytdaaiockkbolbaa
