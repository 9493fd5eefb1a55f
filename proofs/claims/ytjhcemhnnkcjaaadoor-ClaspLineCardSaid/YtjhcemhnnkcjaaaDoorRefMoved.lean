/- The reference's moved and step: a ring of a position is moved; whether it can be. -/
import Derived.Test.YtjhcemhnnkcjaaaDoorRefNum
import Derived.Test.YtjhcemhnnkcjaaaDoorPush
import Derived.Test.YtjhcemhnnkcjaaaDoorMoved
namespace Go.Proofs.YtjhcemhnnkcjaaaDoor
open Go.RowKit
/-- a list that a call hands back -/
def RetS (n : Nat) (ys : List Int) (w : World) (e : Ending) (w' : World) : Prop := ∃ A c, e = .returned (.slice A n c) ∧ RInts w' w'.heap.size A n ys ∧ Below w.heap.size w w'
/-- the same, in memory that the call has made -/
def RetF (n : Nat) (ys : List Int) (w : World) (e : Ending) (w' : World) : Prop := ∃ A c, e = .returned (.slice A n c) ∧ RInts w' w'.heap.size A n ys ∧ Below w.heap.size w w' ∧ Hid (∀ ad : Addr, A = some ad → w.heap.size ≤ ad.block)
theorem RetF.old {n : Nat} {ys : List Int} {w w' : World} {e : Ending} (h : RetF n ys w e w') : RetS n ys w e w' := by
  obtain ⟨A, c, h1, h2, h3, _⟩ := h
  exact ⟨A, c, h1, h2, h3⟩
theorem RInts.grownNe {w w' : World} {B n : Nat} {A : Option Addr} {xs : List Int} {row : Option Nat} (h : RInts w B A n xs) (hg : w.grownBy w' row) (hB : B ≤ w.heap.size) (hne : ∀ ad : Addr, A = some ad → row ≠ some ad.block) : RInts w' B A n xs :=
  ⟨h.1, fun hn => by
    obtain ⟨ad, e, hb, hc⟩ := h.2 hn
    refine ⟨ad, e, hb, fun j u hu => (World.cell?_of_block (hg.block _ ?_ ?_)).trans (hc j u hu)⟩
    · rw [block_of_add]; omega
    · rw [block_of_add]; exact fun e' => hne ad e e'.symm⟩
theorem OwnI.lit0 (w : World) {base : Nat} (hb : base ≤ w.heap.size) : OwnI (w.alloc (.cells #[] 3)) base (.slice (some ⟨w.heap.size, 0, none⟩) 0 0) [] := World.ownsRow_lit w #[] 0 hb (by decide) rfl
theorem wpList_pushAll {w : World} {base : Nat} {v : Value} {xs : List Int} {ops : Array Oper} {rest : List Oper} {o : Oper} {a : Act} {Q : Exit → Act → World → Prop} (hgd : o.guard = none) (s x : Operand)
    (ho : o.op = .call { callee := .builtin .append, args := #[s, x], argTypes := #[22, 22] }) (hs : a.eval s = v) (hown : OwnI w base v xs)
    (ad : Addr) (m c BL : Nat) (ys : List Int) (hx : a.eval x = .slice (some ad) m c) (hY : RInts w BL (some ad) m ys) (hm : 0 < m) (hlen : xs.length + m ≤ 1000000000) (hbase : base ≤ w.heap.size) (N : Nat) (hN : xs.length + m = N)
    (h : ∀ (g cap : Nat) (w' : World), OwnI w' base (.slice (some ⟨g, 0, none⟩) N cap) (xs ++ ys) → w.grownBy w' v.ownBlock → (v.ownBlock = some g ∨ g = w.heap.size) → g < w'.heap.size → wpList Tryd.prog ops Q rest (a.put o.dst (.slice (some ⟨g, 0, none⟩) N cap)) w') : wpList Tryd.prog ops Q (o :: rest) a w := by
  subst hN
  obtain ⟨i0, hi0, hz0, hz1, hz2⟩ := info_parts infoInt
  obtain ⟨ad', e, _, hc⟩ := hY.2 hm
  obtain rfl : ad = ad' := by injection e
  refine wpList_append_lies w hgd s x 22 ho base 3 i0 (.int .i64 0) 1 8 Tryd.underlying22 hi0 hz0 hz1 hz2 rfl (by decide) v xs.length (ints xs) hs hown ad m c (ints ys) hx hY.1
    hc (by simp [ints, Value.oneCell']) hm (by simp only [maxLen]; omega) (by omega) hbase _ rfl ?_
  intro g cap w' hown' hgr hat hlt
  refine h g cap w' ?_ hgr hat hlt
  unfold OwnI
  rw [ints_append, List.length_append, hY.len]
  exact hown'
theorem OwnI.stored {w : World} {base g cap n : Nat} {xs : List Int} (h : OwnI w base (.slice (some ⟨g, 0, none⟩) n cap) xs) (hn : xs.length = n) (k : Nat) (y : Int) : OwnI (w.setCell ⟨g, k, none⟩ (.int .i64 y)) base (.slice (some ⟨g, 0, none⟩) n cap) (xs.set k y) ∧ w.grownBy (w.setCell ⟨g, k, none⟩ (.int .i64 y)) (some g) := by
  subst hn
  obtain ⟨h1, h2⟩ := World.ownsRow.stored h k (.int .i64 y)
  refine ⟨?_, h2⟩
  unfold OwnI
  rw [List.length_set, ints, List.map_set]
  exact h1
theorem OwnI.cell {w : World} {base g cap n k : Nat} {xs : List Int} (h : OwnI w base (.slice (some ⟨g, 0, none⟩) n cap) xs) (hn : xs.length = n) {x : Int} (hx : xs[k]? = some x) : w.cell? ⟨g, k, none⟩ = some (.int .i64 x) ∧ w.frozen? ⟨g, k, none⟩ = false := by
  subst hn
  have hk := (List.getElem?_eq_some_iff.1 hx).1
  refine ⟨?_, World.ownsRow.frozenAt h k⟩
  rw [World.ownsRow.cellAt h k (by omega)]
  simp [ints, hx]
theorem moveS_set {xs : List Int} {k : Nat} {x : Int} (h : xs[k]? = some x) : xs.set k (1 - x) = moveS xs k := by simp [moveS, h]
set_option maxHeartbeats 400000 in
theorem refMoved_new (A : Option Addr) (n c k : Nat) (xs : List Int) (w : World) (ha : RInts w w.heap.size A n xs) (hn : n ≤ 16) (hk : k < n) (hb : bin xs) :
    Calls Tryd.prog 61 #[.slice A n c, .int .i64 k] w (RetF n (moveS xs k) w) := by
  obtain ⟨ad, hA, -⟩ := ha.2 (by omega)
  subst hA
  have hL := Lib.hid ha.len
  obtain ⟨x, hx⟩ : ∃ x, xs[k]? = some x := ⟨xs[k]'(by rw [hL.out]; exact hk), List.getElem?_eq_getElem _⟩
  have hX := Lib.hid hx
  have hbx : 0 ≤ x ∧ x ≤ 1 := by have := hb x (List.mem_of_getElem? hx); omega
  clear hx hb
  go_enter Tryd.func61, Tryd.ntmps61
  go_wp2_with (first
    | (at_builtin
       refine wpList_pushAll rfl _ _ rfl rfl (OwnI.lit0 w (Nat.le_refl _)) ad n c w.heap.size xs rfl (ha.below ((Below.refl _ _).alloc (Nat.le_refl _) _)) (by omega) (by simp; omega) (by simp) n (by simp) ?_
       intro g cap w1 hown hg hat hlt
       rw [List.nil_append] at hown
       obtain ⟨hc0, hf0⟩ := hown.cell hL.out hX.out
       obtain ⟨hown2, hg2⟩ := hown.stored hL.out k (1 - x)
       have hbe := ((Below.refl _ w).alloc (Nat.le_refl _) _).grown hg (by simp) (fun _ e => (OwnI.lit0 w (Nat.le_refl _)).ge e)
       have hge : w.heap.size ≤ g := hown.ge rfl
       have hbe2 := below_some hbe hg2 hbe.size hge
       rw [moveS_set hX.out] at hown2
       clear hg hat hg2 hbe))
  go_ret
  obtain ⟨A2, c2, hv, hr⟩ := hown2.reads
  rw [moveS_length, hL.out] at hv hr
  injection hv with h1 _ h3
  refine ⟨_, _, rfl, by rw [h1]; exact hr, hbe2, Lib.hid (fun ad e => ?_)⟩
  injection e with e
  subst e
  exact hge
theorem refMoved_any (A : Option Addr) (n c k : Nat) (xs : List Int) (w : World) (ha : RInts w w.heap.size A n xs) (hn : n ≤ 16) (hk : k < n) (hb : bin xs) :
    Calls Tryd.prog 61 #[.slice A n c, .int .i64 k] w (RetS n (moveS xs k) w) := (refMoved_new A n c k xs w ha hn hk hb).mono fun _ _ h => h.old
set_option maxHeartbeats 400000 in
theorem refStep_any (A : Option Addr) (n c : Nat) (r : Int) (xs : List Int) (w : World) (BL : Nat) (ha : RInts w BL A n xs) (hn : n ≤ 16) :
    Calls Tryd.prog 63 #[.slice A n c, .int .i64 r] w fun e w' => e = .returned (.int .i64 (stepE xs r)) ∧ w' = w := by
  have hL := ha.len
  by_cases h1 : r < 0
  · have hS := Lib.hid (stepE_neg (xs := xs) h1)
    go_enter Tryd.func63, Tryd.ntmps63
    go_wp2_with (fail)
    go_ret
    exact ⟨by rw [hS.out]; rfl, rfl⟩
  by_cases h2 : (n : Int) ≤ r
  · have hS := Lib.hid (stepE_big (xs := xs) (r := r) (by rw [hL]; exact h2))
    go_enter Tryd.func63, Tryd.ntmps63
    go_wp2_with (fail)
    go_ret
    exact ⟨by rw [hS.out]; rfl, rfl⟩
  obtain ⟨k, rfl⟩ : ∃ k : Nat, r = k := ⟨r.toNat, by omega⟩
  have hk : k < n := by omega
  have hS := Lib.hid (stepE_in (xs := xs) (k := k) (by omega))
  cases hc : canS xs k with
  | true =>
    rw [hc] at hS
    have hC := Lib.hid hc
    clear hc
    go_enter Tryd.func63, Tryd.ntmps63
    go_wp2_with (first
      | (go_at_call 71
         refine (refCan_any A n c k xs w BL ha hn (by omega)).mono ?_
         rintro e w1 ⟨rfl, rfl⟩
         rw [hC.out]))
    go_ret
    exact ⟨by rw [hS.out]; rfl, rfl⟩
  | false =>
    rw [hc] at hS
    have hC := Lib.hid hc
    clear hc
    go_enter Tryd.func63, Tryd.ntmps63
    go_wp2_with (first
      | (go_at_call 71
         refine (refCan_any A n c k xs w BL ha hn (by omega)).mono ?_
         rintro e w1 ⟨rfl, rfl⟩
         rw [hC.out]))
    go_ret
    exact ⟨by rw [hS.out]; rfl, rfl⟩
end Go.Proofs.YtjhcemhnnkcjaaaDoor
