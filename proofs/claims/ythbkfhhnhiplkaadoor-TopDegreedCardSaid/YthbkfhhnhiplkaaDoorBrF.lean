/- branch's list of a tree: leaves, the first knot of a set, a wood cloned. -/
import Derived.Test.YthbkfhhnhiplkaaDoorBrC
import Derived.ArgAppend
import Derived.Lib.SliceRun
import Derived.Shelf.Abstract
namespace Go.Proofs.YthbkfhhnhiplkaaDoor
open Go.RowKit
namespace Br
/-- one knot alone -/
def leafB (s : Nat) : Bool := s != 0 && (s &&& (s - 1)) == 0
theorem leaf_any (s : Nat) (hs : s < 65536) (w : World) : Calls Tryd.prog 123 #[.int .u16 (s : Int)] w fun e w' => e = .returned (.bool (leafB s)) ∧ w' = w := by
  by_cases h0 : s = 0
  · have hb : ((s : Int) != 0) = false := by simp [h0]
    have hL := Lib.hid (show leafB s = false by rw [h0]; rfl)
    rw [hL.out]
    clear h0
    go_enter Tryd.func123, Tryd.ntmps123
    go_wp2_with (fail)
    go_ret
    exact ⟨rfl, rfl⟩
  · have hb : ((s : Int) != 0) = true := by simp; omega
    have hs1 : IntKind.u16.wrap ((s : Int) - 1) = ((s - 1 : Nat) : Int) := by
      rw [show (s : Int) - 1 = ((s - 1 : Nat) : Int) by omega]
      exact wrap_u16 _ (by omega)
    have hand := u16_and s (s - 1) hs (by omega)
    obtain ⟨q, hq⟩ : ∃ q, leafB s = q := ⟨_, rfl⟩
    rw [hq]
    have hqH := Lib.hid (show (((s &&& (s - 1) : Nat) : Int) == 0) = q by
      rw [← hq]
      unfold leafB
      have h1 : (s != 0) = true := by simpa using h0
      rw [h1, Bool.true_and]
      by_cases h2 : s &&& (s - 1) = 0
      · simp [h2]
      · have h3 : ((s &&& (s - 1)) == 0) = false := by simpa using h2
        rw [h3]
        simp only [beq_eq_false_iff_ne]
        omega)
    have hs1H := Lib.hid hs1
    clear hq h0 hs1
    go_enter Tryd.func123, Tryd.ntmps123
    have hs1 := hs1H.out
    go_wp2_with (fail)
    go_ret
    exact ⟨by rw [← hqH.out]; rfl, rfl⟩
/-- the first leaf -/
theorem idx_ok (gw n c k : Nat) (ws : List Nat) (ext : Array Value) (hl : ws.length = n) (hn : n ≤ 9) (hk : k < n) (hws : ∀ x ∈ ws, x < 512) (h1 : leafB (ws.getD k 0) = true) (h2 : ∀ j, j < k → leafB (ws.getD j 0) = false) (w : World) (hW : Blk w gw 89 (uArr ws ++ ext)) :
    Calls Tryd.prog 122 #[.slice (some ⟨gw, 0, none⟩) n c, .func (.func 123) #[] #[]] w fun e w' => e = .returned (.int .i64 (k : Int)) ∧ w' = w := by
  have h1H := Lib.hid h1
  have h2H := Lib.hid h2
  have hwsH := Lib.hid hws
  clear h1 h2 hws
  go_enter Tryd.func122, Tryd.ntmps122
  go_wp2_with (fail)
  go_loopw [8] (fun v wr => ∃ i : Nat, i ≤ k ∧ v = .int .i64 i ∧ w = wr) (fun v _ => n - (intOf v).toNat)
  case atStart => exact ⟨0, by omega, rfl, rfl⟩
  case round =>
    obtain ⟨i, hi, rfl, hw⟩ := hrel
    subst hw
    have hlti : (i : Int) < n := by omega
    have hi0 : (0 : Int) ≤ i := by omega
    obtain ⟨x, hx⟩ : ∃ x, ws.getD i 0 = x := ⟨_, rfl⟩
    have hc : w.cell? ⟨gw, i, none⟩ = some (.int .u16 (x : Int)) := by rw [hW.cell, uX_at (by omega), getD_at (by omega), hx]; rfl
    have hx5 : x < 512 := by rw [← hx]; exact hwsH.out _ (List.mem_of_getElem? (getD_at (by omega)))
    have cl := Lib.hid (leaf_any x (by omega) w)
    by_cases hik : i = k
    · have hb : leafB x = true := by rw [← hx, hik]; exact h1H.out
      rw [hb] at cl
      have hikH := Lib.hid hik
      clear hb hx hik
      go_wp2_with (first
        | (go_at_call 123; (with_reducible refine cl.out.mono ?_); rintro e wz ⟨rfl, hwz⟩; replace hwz := hwz.symm; subst hwz))
      go_ret
      exact ⟨by rw [← hikH.out]; rfl, rfl⟩
    · have hb : leafB x = false := by rw [← hx]; exact h2H.out i (by omega)
      rw [hb] at cl
      clear hb hx
      go_wp2_with (first
        | (go_at_call 123; (with_reducible refine cl.out.mono ?_); rintro e wz ⟨rfl, hwz⟩; replace hwz := hwz.symm; subst hwz))
      go_roundw
      case rel => exact ⟨i + 1, by omega, by go_num, by first | rfl | trivial⟩
      case measure => simp only [intOf]; omega
/-- the first knot -/
theorem first_ok (s k : Nat) (hs : s < 65536) (hk : k ≤ 8) (h1 : s.testBit k = true) (h2 : ∀ j, j < k → s.testBit j = false) (w : World) :
    Calls Tryd.prog 124 #[.int .u16 (s : Int)] w fun e w' => e = .returned (.int .i64 (k : Int)) ∧ w' = w := by
  have h1H := Lib.hid h1
  have h2H := Lib.hid h2
  clear h1 h2
  go_enter Tryd.func124, Tryd.ntmps124
  go_wp2_with (fail)
  go_loopw [3] (fun v wr => ∃ i : Nat, i ≤ k ∧ v = .int .i64 i ∧ w = wr) (fun v _ => 9 - (intOf v).toNat)
  case atStart => exact ⟨0, by omega, rfl, rfl⟩
  case round =>
    obtain ⟨i, hi, rfl, hw⟩ := hrel
    subst hw
    have cl := Lib.hid (has_any s i hs (by omega) w)
    by_cases hik : i = k
    · have hb : s.testBit i = true := by rw [hik]; exact h1H.out
      rw [hb] at cl
      have hikH := Lib.hid hik
      clear hb hik
      go_wp2_with (first
        | (go_at_call 57; (with_reducible refine cl.out.mono ?_); rintro e wz ⟨rfl, hwz⟩; replace hwz := hwz.symm; subst hwz))
      go_ret
      exact ⟨by rw [← hikH.out]; rfl, rfl⟩
    · have hb : s.testBit i = false := h2H.out i (by omega)
      rw [hb] at cl
      clear hb
      go_wp2_with (first
        | (go_at_call 57; (with_reducible refine cl.out.mono ?_); rintro e wz ⟨rfl, hwz⟩; replace hwz := hwz.symm; subst hwz))
      go_roundw
      case rel => exact ⟨i + 1, by omega, by go_num, by first | rfl | trivial⟩
      case measure => simp only [intOf]; omega
theorem info_u16' : (Tryd.prog.info? 89).map (fun i => (i.zero, i.size, i.bytes)) = some (some (.int .u16 0), 1, 2) := by kernel_rfl
set_option maxRecDepth 100000 in
set_option maxHeartbeats 1000000 in
/-- a wood cloned -/
theorem clone_ok (gw n c : Nat) (ws : List Nat) (hl : ws.length = n) (h1 : 1 ≤ n) (hn : n ≤ 9) (w : World) (hW : Blk w gw 89 (uArr ws)) :
    Calls Tryd.prog 121 #[.slice (some ⟨gw, 0, none⟩) n c] w fun e w' => ∃ g c' ext, e = .returned (.slice (some ⟨g, 0, none⟩) n c') ∧ w.heap.size ≤ g ∧ Blk w' g 89 (uArr ws ++ ext) ∧ Below w.heap.size w w' := by
  obtain ⟨i0, hi0, hz0, hz1, hz2⟩ := info_parts info_u16'
  have q97 : ∀ (w : World) (a : Option Addr) (n c n' c' : Nat), (binOp .eql 97 (.slice a n c) (.slice none n' c')).run Tryd.prog w = .ok (.bool a.isNone) w := fun w a n c n' c' => Lib.run_eql_slice_nil w _ _ a n c n' c' Tryd.underlying97
  have hnews : ∀ j u, (ws.map fun x : Nat => Value.int .u16 (x : Int))[j]? = some u → (w.alloc (.cells #[] 89)).cell? ((⟨gw, 0, none⟩ : Addr).add j) = some u := fun j u hj => by
    have e : (⟨gw, 0, none⟩ : Addr).add j = ⟨gw, j, none⟩ := by unfold Addr.add; split <;> simp_all
    rw [e, (hW.alloc _).cell]
    simpa [uArr] using hj
  go_enter Tryd.func121, Tryd.ntmps121
  go_wp2_with (first
    | (at_builtin
       refine wpList_append_grows _ rfl _ _ 97 rfl 89 i0 (.int .u16 0) 1 2 Tryd.underlying97 hi0 hz0 hz1 hz2 rfl (by decide) (some ⟨w.heap.size, 0, none⟩) 0 0 [] rfl (fun h => by cases h) rfl (fun _ _ j u hj => by simp at hj)
         ⟨gw, 0, none⟩ n c (ws.map fun x : Nat => Value.int .u16 (x : Int)) rfl (by simp [hl]) hnews (by simp [Value.oneCell']) (by omega) (by simp only [maxLen]; omega) (by omega) ?_
       intro v3 w3 hown hgr))
  rcases hown.2 with ⟨_, h0⟩ | ⟨g, cap, cur, rfl, hge, hcur, hcap, _, hsz, htk⟩
  · omega
  · have hb0 := (Below.refl w.heap.size w).alloc (Nat.le_refl _) (.cells #[] 89)
    have hb1 := below_none hb0 hgr hb0.size
    have hgw : w.heap.size ≤ g := Nat.le_trans hb0.size hge
    have hcu : cur = uArr ws ++ (cur.toList.drop n).toArray := by
      apply Array.toList_inj.1
      have h3 := List.take_append_drop n cur.toList
      rw [show (0 + n) * 1 = n by omega] at htk
      rw [htk] at h3
      simpa [uArr] using h3.symm
    have hB : Blk w3 g 89 (uArr ws ++ (cur.toList.drop n).toArray) := by rw [← hcu]; exact hcur
    rw [Nat.zero_add] at hcap ⊢
    clear hown hcur hcu htk hsz hnews
    go_wp2_with (fail)
    go_ret
    exact ⟨g, _, _, rfl, hgw, hB, hb1⟩
end Br
end Go.Proofs.YthbkfhhnhiplkaaDoor
