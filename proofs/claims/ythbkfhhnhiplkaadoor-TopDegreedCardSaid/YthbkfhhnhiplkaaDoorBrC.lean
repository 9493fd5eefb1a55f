/- branch's tie. -/
import Derived.Test.YthbkfhhnhiplkaaDoorBrB
import Derived.Test.YthbkfhhnhiplkaaDoorRowK
import Derived.StillTailTactics
namespace Go.Proofs.YthbkfhhnhiplkaaDoor
open Go.RowKit
namespace Br
def uArr (ws : List Nat) : Array Value := (ws.map fun x : Nat => Value.int .u16 (x : Int)).toArray
theorem uArr_at (ws : List Nat) (k : Nat) : (uArr ws)[k]? = (ws[k]?).map fun x : Nat => Value.int .u16 (x : Int) := by simp [uArr]
theorem uArr_set (ws : List Nat) (k x : Nat) : (uArr ws).setIfInBounds k (.int .u16 (x : Int)) = uArr (ws.set k x) := by simp [uArr, List.map_set]
theorem uArr_size (ws : List Nat) : (uArr ws).size = ws.length := by simp [uArr]
theorem uX_at {ws : List Nat} {ext : Array Value} {k : Nat} (h : k < ws.length) : (uArr ws ++ ext)[k]? = (ws[k]?).map fun x : Nat => Value.int .u16 (x : Int) := by
  rw [Array.getElem?_append_left (by rw [uArr_size]; exact h), uArr_at]
theorem uX_set {ws : List Nat} {ext : Array Value} {k x : Nat} (h : k < ws.length) : (uArr ws ++ ext).setIfInBounds k (.int .u16 (x : Int)) = uArr (ws.set k x) ++ ext := by
  rw [← uArr_set, Array.setIfInBounds_append_left (by rw [uArr_size]; exact h)]
/-- one end of a tie -/
def endW (ws : List Nat) (a b : Nat) : List Nat := ws.set a (ws.getD a 0 ^^^ 2 ^ b)
def tieW (ws : List Nat) (a b : Nat) : List Nat := endW (endW ws a b) b a
theorem getD_at {ws : List Nat} {a : Nat} (h : a < ws.length) : ws[a]? = some (ws.getD a 0) := by
  rw [List.getD_eq_getElem?_getD, List.getElem?_eq_getElem h]; rfl
theorem end_len (ws : List Nat) (a b : Nat) : (endW ws a b).length = ws.length := by simp [endW]
theorem end_small {ws : List Nat} {a b : Nat} (h : ∀ x ∈ ws, x < 512) (ha : a < ws.length) (hb : b ≤ 8) : ∀ x ∈ endW ws a b, x < 512 := by
  intro x hx
  rcases List.mem_or_eq_of_mem_set hx with hx | rfl
  · exact h x hx
  · have h1 : ws.getD a 0 < 2 ^ 9 := h _ (List.mem_of_getElem? (getD_at ha))
    have h2 : 2 ^ b < 2 ^ 9 := Nat.pow_lt_pow_right (by omega) (by omega)
    exact Nat.xor_lt_two_pow h1 h2
theorem xor_val {x k : Nat} (hx : x < 65536) (hk : k ≤ 8) : bits .xor .u16 (x : Int) (IntKind.u16.wrap (2 ^ k)) = ((x ^^^ 2 ^ k : Nat) : Int) := by
  have h1 : 2 ^ k ≤ 2 ^ 8 := Nat.pow_le_pow_right (by omega) hk
  have e : (2 : Int) ^ k = ((2 ^ k : Nat) : Int) := by simp
  rw [e, wrap_u16 _ (by omega), u16_xor _ _ hx (by omega)]
theorem grown_drew {w w' : World} {r : Option Nat} (h : w.grownBy w' r) : w.grownBy w'.drew r := ⟨h.os, h.tape, h.output, h.size, h.block⟩
set_option maxRecDepth 100000 in
set_option maxHeartbeats 1000000 in
theorem tie_ext (gw n c a b : Nat) (ws : List Nat) (ext : Array Value) (hl : ws.length = n) (hn : n ≤ 9) (ha : a < n) (hb : b < n) (hws : ∀ x ∈ ws, x < 512) (w : World) (hW : Blk w gw 89 (uArr ws ++ ext)) :
    Calls Tryd.prog 72 #[.slice (some ⟨gw, 0, none⟩) n c, .agg #[.int .i64 (a : Int), .int .i64 (b : Int)]] w fun e w' => e = .returned (.tuple #[]) ∧ Blk w' gw 89 (uArr (tieW ws a b) ++ ext) ∧ Fr (fun i => i = gw) w w' := by
  obtain ⟨xa, hxa⟩ : ∃ x, ws.getD a 0 = x := ⟨_, rfl⟩
  have hca : w.cell? ⟨gw, a, none⟩ = some (.int .u16 (xa : Int)) := by rw [hW.cell, uX_at (by omega), getD_at (by omega), hxa]; rfl
  have hxa5 : xa < 512 := by rw [← hxa]; exact hws _ (List.mem_of_getElem? (getD_at (by omega)))
  have hai : (a : Int) < n := by omega
  have hbi : (b : Int) < n := by omega
  have ha0 : (0 : Int) ≤ a := by omega
  have hb0 : (0 : Int) ≤ b := by omega
  obtain ⟨WS, hWS⟩ : ∃ q, tieW ws a b = q := ⟨_, rfl⟩
  rw [hWS]
  have hWH := Lib.hid (show endW (endW ws a b) b a = WS from hWS)
  clear hWS
  go_enter Tryd.func72, Tryd.ntmps72
  go_wp2_with (first
    | (with_reducible show wpList _ _ _ (⟨_, .box 37 (.tmp 1), _, _, _, _⟩ :: _) _ _
       refine wpList_box_blk rfl 37 _ rfl #[.int .i64 (a : Int), .int .i64 (b : Int)] rfl ?_
       intro w1 g hG hgr hge))
  have hneg : gw ≠ g := by have := hW.lt; omega
  have hW1 := hW.none_ hgr
  have hc1 : w1.cell? ⟨gw, a, none⟩ = some (.int .u16 (xa : Int)) := by rw [hW1.cell, uX_at (by omega), getD_at (by omega), hxa]; rfl
  have hf1 := hW1.frozen a
  have hx0 : w1.cell? ⟨g, 0, none⟩ = some (.int .i64 (a : Int)) := hG.cell 0
  have hx1 : w1.cell? ⟨g, 1, none⟩ = some (.int .i64 (b : Int)) := hG.cell 1
  clear hca
  go_still_tail 10, (by kernel_rfl)
  change wpList _ _ _ _ _ w1.drew
  have hW2 := hW1.drew
  have hG2 := hG.drew
  have hgr2 := grown_drew hgr
  clear hW1 hG hgr hc1 hf1 hx0 hx1
  generalize w1.drew = w2 at *
  have hval := xor_val (x := xa) (k := b) (by omega) (by omega)
  rw [hval]
  obtain ⟨x1, hx1⟩ : ∃ x, xa ^^^ 2 ^ b = x := ⟨_, rfl⟩
  rw [hx1]
  have hc2 : w2.cell? ⟨gw, a, none⟩ = some (.int .u16 (xa : Int)) := by rw [hW2.cell, uX_at (by omega), getD_at (by omega), hxa]; rfl
  have hf2 := hW2.frozen a
  clear hval
  go_wp2_with (fail)
  have hW3 := hW2.set_ a (.int .u16 (x1 : Int))
  rw [uX_set (by omega)] at hW3
  have hG3 := hG2.far (p := ⟨gw, a, none⟩) (Ne.symm hneg) (.int .u16 (x1 : Int))
  have hF3 : Fr (fun i => i = gw) w (w2.setCell ⟨gw, a, none⟩ (.int .u16 (x1 : Int))) := ⟨hgr2.os, hgr2.tape, hgr2.output, by simpa using hgr2.size, fun i hi hne => (Below.heap_setCell w2 _ _ i hne).trans (hgr2.block i hi (by simp))⟩
  have hW3' : Blk (w2.setCell ⟨gw, a, none⟩ (.int .u16 (x1 : Int))) gw 89 (uArr (endW ws a b) ++ ext) := by unfold endW; rw [hxa, hx1]; exact hW3
  clear hW3 hW2 hG2 hgr2 hc2 hf2 hx1 hxa
  generalize w2.setCell ⟨gw, a, none⟩ (.int .u16 (x1 : Int)) = w3 at *
  have hl3 : (endW ws a b).length = n := by rw [end_len, hl]
  have hws3 := end_small hws (show a < ws.length by omega) (show b ≤ 8 by omega)
  generalize endW ws a b = us at *
  obtain ⟨xb, hxb⟩ : ∃ x, us.getD b 0 = x := ⟨_, rfl⟩
  have hxb5 : xb < 512 := by rw [← hxb]; exact hws3 _ (List.mem_of_getElem? (getD_at (by omega)))
  have hc3 : w3.cell? ⟨gw, b, none⟩ = some (.int .u16 (xb : Int)) := by rw [hW3'.cell, uX_at (by omega), getD_at (by omega), hxb]; rfl
  have hf3 := hW3'.frozen b
  have hy0 : w3.cell? ⟨g, 0, none⟩ = some (.int .i64 (a : Int)) := hG3.cell 0
  have hy1 : w3.cell? ⟨g, 1, none⟩ = some (.int .i64 (b : Int)) := hG3.cell 1
  go_wp2_with (fail)
  go_still_tail 10, (by kernel_rfl)
  change wpList _ _ _ _ _ w3.drew
  have hW4 := hW3'.drew
  have hF4 : Fr (fun i => i = gw) w w3.drew := ⟨hF3.os, hF3.tape, hF3.output, hF3.size, hF3.block⟩
  clear hW3' hG3 hF3 hc3 hf3 hy0 hy1
  generalize w3.drew = w4 at *
  have hval := xor_val (x := xb) (k := a) (by omega) (by omega)
  rw [hval]
  obtain ⟨x2, hx2⟩ : ∃ x, xb ^^^ 2 ^ a = x := ⟨_, rfl⟩
  rw [hx2]
  have hc4 : w4.cell? ⟨gw, b, none⟩ = some (.int .u16 (xb : Int)) := by rw [hW4.cell, uX_at (by omega), getD_at (by omega), hxb]; rfl
  have hf4 := hW4.frozen b
  clear hval
  go_wp2_with (fail)
  go_end0
  refine ⟨rfl, ?_, ⟨hF4.os, hF4.tape, hF4.output, by simpa using hF4.size, fun i hi hne => (Below.heap_setCell w4 _ _ i hne).trans (hF4.block i hi hne)⟩⟩
  have h5 := hW4.set_ b (.int .u16 (x2 : Int))
  rw [uX_set (by omega)] at h5
  rw [← hWH.out]
  unfold endW
  rw [hxb, hx2]
  exact h5
theorem tie_ok (gw n c a b : Nat) (ws : List Nat) (hl : ws.length = n) (hn : n ≤ 9) (ha : a < n) (hb : b < n) (hws : ∀ x ∈ ws, x < 512) (w : World) (hW : Blk w gw 89 (uArr ws)) :
    Calls Tryd.prog 72 #[.slice (some ⟨gw, 0, none⟩) n c, .agg #[.int .i64 (a : Int), .int .i64 (b : Int)]] w fun e w' => e = .returned (.tuple #[]) ∧ Blk w' gw 89 (uArr (tieW ws a b)) ∧ Fr (fun i => i = gw) w w' := by
  have h := tie_ext gw n c a b ws #[] hl hn ha hb hws w (by simpa using hW)
  simpa using h
end Br
end Go.Proofs.YthbkfhhnhiplkaaDoor
