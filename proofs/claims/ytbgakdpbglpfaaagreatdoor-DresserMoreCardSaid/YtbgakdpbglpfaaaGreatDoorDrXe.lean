/- The law's lists; lists that are compared with what is told. -/
import Derived.Test.YtbgakdpbglpfaaaGreatDoorDrXd
namespace Go.Proofs.YtbgakdpbglpfaaaGreatDoor
open Go.RowKit
namespace Dr
set_option linter.unusedSimpArgs false
section
variable {w w' : World}
theorem rstrs_blk {g : Nat} {t : TypeId} {n : Nat} {xs : List ByteArray} (h : Blk w g t (strsV xs).toArray) (hn : xs.length = n) : RStrs w w.heap.size (some ⟨g, 0, none⟩) n xs := by
  refine ⟨by simp [strsV_length, hn], fun _ => ⟨_, rfl, h.lt, fun j u hu => ?_⟩⟩
  have e : (⟨g, 0, none⟩ : Addr).add j = ⟨g, j, none⟩ := by unfold Addr.add; split <;> simp_all
  rw [e, h.cell, List.getElem?_toArray]
  exact hu
theorem same_new {v : Value} {xs ys : List Nat} {cs : Array Value} {n : Nat} (h : OwnN w v xs) (hcs : cs = intArr (natI ys)) (hn : ys.length = n) (hm : n ≤ maxLen) (he : xs = ys) :
    Calls Tryz.prog 46 #[v, .slice (some ⟨w.heap.size, 0, none⟩) n n] (w.alloc (.cells cs 3)) fun e w' => e = .returned (.bool true) ∧ Below w.heap.size w w' := by
  obtain ⟨A, c, rfl, h1, h2, hr, _⟩ := ownN_form h
  subst hcs he
  have hb : Below w.heap.size w (w.alloc (.cells (intArr (natI xs)) 3)) := (Below.refl _ _).alloc (Nat.le_refl _) _
  have hr2 := RInts.of_blk (Blk.new w 3 (intArr (natI xs))) (n := n) (by rw [natI_length]; exact hn)
  refine (same_any A _ xs.length n c n (natI xs) (natI xs) _ _ ((hr.later (Nat.le_refl _) hb).more hb.size) hr2 (Nat.le_trans h1 h2) hm).mono ?_
  rintro e w' ⟨rfl, q, rfl⟩
  exact ⟨by rw [decide_eq_true rfl], below_drewN hb q⟩
theorem texts_new {v : Value} {xs ys : List ByteArray} {cs : Array Value} {n : Nat} (h : OwnT w v xs) (hcs : cs = (strsV ys).toArray) (hn : ys.length = n) (hm : n ≤ maxLen) (he : xs = ys) :
    Calls Tryz.prog 22 #[v, .slice (some ⟨w.heap.size, 0, none⟩) n n] (w.alloc (.cells cs 9)) fun e w' => e = .returned (.bool true) ∧ Below w.heap.size w w' := by
  obtain ⟨A, c, rfl, h1, h2, hr, _⟩ := ownS_form h
  subst hcs he
  have hb : Below w.heap.size w (w.alloc (.cells (strsV xs).toArray 9)) := (Below.refl _ _).alloc (Nat.le_refl _) _
  have hr2 := rstrs_blk (Blk.new w 9 (strsV xs).toArray) hn
  refine (texts_any A _ xs.length n c n xs xs _ _ ((hr.later (Nat.le_refl _) hb).more hb.size) hr2 (Nat.le_trans h1 h2) hm).mono ?_
  rintro e w' ⟨rfl, q, rfl⟩
  exact ⟨by rw [decide_eq_true rfl], below_drewN hb q⟩
set_option maxRecDepth 100000 in
theorem B_any (w : World) : Calls Tryz.prog 50 #[] w fun e w' => ∃ g, e = .returned (.slice (some ⟨g, 0, none⟩) 6 6) ∧ RStrs w' w'.heap.size (some ⟨g, 0, none⟩) 6 linesB ∧ Below w.heap.size w w' := by
  go_enter Tryz.func50, Tryz.ntmps50
  go_wp2_with (go_at_call 53; (with_reducible refine (list_same _ _).mono ?_); rintro e w3 ⟨rfl, hw3⟩; replace hw3 := hw3.symm; subst hw3)
  go_ret
  exact ⟨_, rfl, rstrs_blk (Blk.new w 9 (strsV linesB).toArray) rfl, (Below.refl _ _).alloc (Nat.le_refl _) _⟩
end
end Dr
end Go.Proofs.YtbgakdpbglpfaaaGreatDoor
