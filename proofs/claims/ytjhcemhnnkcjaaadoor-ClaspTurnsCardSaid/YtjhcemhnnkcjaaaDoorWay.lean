/- Way of the program. -/
import Derived.Test.YtjhcemhnnkcjaaaDoorNext
import Derived.Test.YtjhcemhnnkcjaaaDoorMoves
import Derived.Deep.RegionHeld3
import Derived.Deep.LoopGhost
namespace Go.Proofs.YtjhcemhnnkcjaaaDoor
open Go.RowKit
def stepTo (a b : Nat) : Nat := if a < b then a + 1 else a - 1
/-- the place after some moves -/
def posS (a b j : Nat) : Nat := if a < b then a + j else a - j
/-- the rings of a way -/
def wayN (a b : Nat) : List Int := (List.range (distS a b)).map fun j => (nextS (posS a b j) b : Int)
def wayE (xs ys : List Int) : Int := if bothE xs ys ≠ 0 then bothE xs ys else if 1000 < distS (numS xs) (numS ys) then 3 else 0
def wayL (xs ys : List Int) : List Int := if wayE xs ys = 0 then wayN (numS xs) (numS ys) else []
theorem wayN_length (a b : Nat) : (wayN a b).length = distS a b := by simp [wayN]
theorem wayN_take {a b j : Nat} (h : j < distS a b) : (wayN a b).take (j + 1) = (wayN a b).take j ++ [(nextS (posS a b j) b : Int)] := by
  rw [List.take_add_one]; simp [wayN, h]
theorem posS_zero (a b : Nat) : posS a b 0 = a := by unfold posS; split <;> omega
theorem posS_succ {a b j : Nat} (h : j < distS a b) : posS a b (j + 1) = stepTo (posS a b j) b := by
  unfold distS at h
  unfold posS stepTo
  by_cases hab : a < b
  · simp only [hab, if_true]; rw [if_pos (by omega)]; omega
  · simp only [hab, if_false]; rw [if_neg (by omega)]; omega
theorem posS_dist {a b j : Nat} (h : j ≤ distS a b) : distS (posS a b j) b = distS a b - j := by
  unfold distS at h
  unfold posS distS
  split <;> omega
theorem posS_lt {a b j : Nat} (ha : a < 65536) (hb : b < 65536) (h : j ≤ distS a b) : posS a b j < 65536 := by
  unfold distS at h
  unfold posS
  split <;> omega
theorem step_any (n : Int) (a b : Nat) (hab : a ≠ b) (ha : a < 65536) (hb : b < 65536) (w : World) (hT : Tab w) :
    Calls Tryd.prog 59 #[.agg (walkC n a b)] w fun e w' => e = .returned (.tuple #[.int .i64 (nextS a b), .agg (walkC n (stepTo a b) b)]) ∧ Below w.heap.size w w' := by
  unfold nextS stepTo
  by_cases h : a < b
  · rw [if_pos h, if_pos h]; exact step_up n a b h hb w hT
  · rw [if_neg h, if_neg h]; exact step_down n a b (by omega) ha w hT
theorem size_walk (n : Int) (a b : Nat) (ha : a < 65536) (hb : b < 65536) (w : World) :
    Calls Tryd.prog 57 #[.agg (walkC n a b)] w fun e w' => e = .returned (.int .i64 (distS a b : Nat)) ∧ Below w.heap.size w w' := size_any n a b ha hb w
theorem info_walk3 : (Tryd.prog.info? 78).map (·.size) = some 3 := by kernel_rfl
theorem execOp_load_walk (ρ : Operand → Value) (dst : Option Tmp) (x : Operand) (ty : TypeId) (pos : String) (after : Array Edge) (guard : Option (Nat × Bool)) :
    execOp ρ { dst, op := .load 78 x, type := ty, pos, after, guard } = (do pure (.value (← loadAgg 78 (ρ x)))) := rfl
theorem run_load_walk (w : World) (g : Nat) : (loadAgg 78 (.pointer (some ⟨g, 0, none⟩))).run Tryd.prog w = match aggAt 78 3 w g with | some cs => .ok (.agg cs) w | none => aggStuck Tryd.prog 78 w g :=
  run_loadAgg Tryd.underlying78 rfl info_walk3 w g
theorem walkAt_of {w : World} {g : Nat} {n a b : Int} (h : Blk w g 78 (walkC n a b)) : aggAt 78 3 w g = some (walkC n a b) := aggAt_of h rfl
abbrev wayS (w : World) (g6 g10 : Nat) (cs10 : Array Value) (w' : World) : Prop :=
  aggAt 78 3 w' g10 = some cs10 ∧ (∃ cs, Blk w' g6 78 cs ∧ cs.size = 3) ∧ Blk w' g10 78 cs10 ∧ Below w.heap.size w w'
theorem wayS_of {w w' : World} {g6 g10 : Nat} {cs10 : Array Value} (hs : cs10.size = 3) (h6 : ∃ cs, Blk w' g6 78 cs ∧ cs.size = 3) (h10 : Blk w' g10 78 cs10) (hb : Below w.heap.size w w') : wayS w g6 g10 cs10 w' :=
  ⟨aggAt_of h10 hs, h6, h10, hb⟩
theorem wayS_alloc {w w0 : World} {g6 g10 : Nat} {cs10 : Array Value} (hs : cs10.size = 3) (h : wayS w g6 g10 cs10 w0) (o : Obj) : wayS w g6 g10 cs10 (w0.alloc o) := by
  obtain ⟨_, ⟨cs, h6, h3⟩, h10, hb⟩ := h
  exact wayS_of hs ⟨cs, h6.alloc o, h3⟩ (h10.alloc o) (hb.alloc hb.size o)
theorem wayS_push {w w0 w' : World} {g6 g10 : Nat} {cs10 : Array Value} (hs : cs10.size = 3) (h : wayS w g6 g10 cs10 w0) {base : Nat} {v : Value} {xs : List Int} (hown : OwnI w0 base v xs) (hbase : w.heap.size ≤ base) (hg : w0.grownBy w' v.ownBlock) : wayS w g6 g10 cs10 w' := by
  obtain ⟨_, ⟨cs, h6, h3⟩, h10, hb⟩ := h
  exact wayS_of hs ⟨cs, h6.grown hg (fun e => hown.blk_ne h6 (by decide) e.symm), h3⟩ (h10.grown hg (fun e => hown.blk_ne h10 (by decide) e.symm)) (hb.grown hg hb.size (fun k hk => Nat.le_trans hbase (hown.ge hk)))
theorem wayS_store {w w0 : World} {g6 g10 : Nat} {cs10 : Array Value} (hs : cs10.size = 3) (h : wayS w g6 g10 cs10 w0) (hne : g10 ≠ g6) (hge : w.heap.size ≤ g6) (i : Nat) (u : Value) : wayS w g6 g10 cs10 (w0.setCell ⟨g6, i, none⟩ u) := by
  obtain ⟨_, ⟨cs, h6, h3⟩, h10, hb⟩ := h
  exact wayS_of hs ⟨_, h6.set_ i u, by simpa using h3⟩ (h10.far hne _) (hb.setCell hge _)
theorem wayS_cells {w w0 : World} {g6 g10 : Nat} {cs10 : Array Value} (h : wayS w g6 g10 cs10 w0) : ∃ v0 v1 v2, Blk w0 g6 78 #[v0, v1, v2] ∧ w0.cell? ⟨g6, 0, none⟩ = some v0 ∧ w0.cell? ⟨g6, 1, none⟩ = some v1 ∧ w0.cell? ⟨g6, 2, none⟩ = some v2 ∧
    w0.frozen? ⟨g6, 0, none⟩ = false ∧ w0.frozen? ⟨g6, 1, none⟩ = false ∧ w0.frozen? ⟨g6, 2, none⟩ = false := by
  obtain ⟨_, ⟨cs, h4, hs⟩, _⟩ := h
  obtain ⟨l⟩ := cs
  match l, hs with
  | [v0, v1, v2], _ => exact ⟨v0, v1, v2, h4, by rw [h4.cell]; rfl, by rw [h4.cell]; rfl, by rw [h4.cell]; rfl, h4.frozen _, h4.frozen _, h4.frozen _⟩
section
attribute [local go_sem ↓] execOp_load_walk
attribute [local go_sem] run_load_walk
set_option maxRecDepth 100000 in
set_option maxHeartbeats 4000000 in
theorem Way_ok (A B : Option Addr) (n c d : Nat) (xs ys : List Int) (w : World) (ha : RInts w w.heap.size A n xs) (hb : RInts w w.heap.size B n ys) (hn : n ≤ maxLen) (hT : Tab w) (hx : chk xs = 0) (hy : chk ys = 0) (k1 : numS xs < 65536) (k2 : numS ys < 65536) (hd : distS (numS xs) (numS ys) ≤ 1000) :
    Calls Tryd.prog 27 #[.slice A n c, .slice B n d] w (RetL (wayN (numS xs) (numS ys)) 0 w) := by
  have hX := Lib.hid hx
  have hY := Lib.hid hy
  clear hx hy
  obtain ⟨a, hA⟩ : ∃ a, numS xs = a := ⟨_, rfl⟩
  obtain ⟨b, hB⟩ : ∃ b, numS ys = b := ⟨_, rfl⟩
  rw [hA, hB] at hd ⊢
  rw [hA] at k1
  rw [hB] at k2
  have hAA := Lib.hid hA
  have hBB := Lib.hid hB
  clear hA hB
  go_enter Tryd.func27, Tryd.ntmps27
  go_wp2_with (first
    | (go_at_call 56
       refine (walked_ok A B n c d xs ys w ha hb hn hX.out hY.out).mono ?_
       rintro e w1 ⟨rfl, hb1⟩
       rw [hAA.out, hBB.out])
    | (with_reducible show wpList _ _ _ (⟨some 6, .alloc 78, _, _, _, _⟩ :: _) _ _
       refine wpList_alloc_blk rfl 78 rfl _ zero_walk ?_
       intro w2 g6 hB2 hg2 hs2
       have hb2 := below_none hb1 hg2 hb1.size)
    | (with_reducible show wpList _ _ _ (⟨_, .store 78 (.tmp 6) (.tmp 15), _, _, _, _⟩ :: _) _ _
       refine wpList_store_blk rfl 78 _ _ rfl g6 (walkC n a b) rfl rfl 78 (walkC 0 0 0) hB2 (info_walk _ _ _) rfl (walkC_one _ _ _) ?_
       intro w3 hB3 hg3
       have hgg : w.heap.size ≤ g6 := by have := hb1.size; omega
       have hb3 := below_some hb2 hg3 hb2.size hgg
       have hl3 := walkAt_of hB3)
    | (go_at_call 57
       have _t := hl3
       refine (size_walk n a b k1 k2 _).mono ?_
       rintro e w4 ⟨rfl, hb4⟩
       have hB4 := hB3.callee hb4
       have hbe4 := hb3.trans (hb4.mono hb3.size)
       clear hl3))
  clear hb1 hb2 hB2 hg2 hs2 hb3 hg3 hB3 hb4
  have hpos0 := posS_zero a b
  have HP0 := Lib.hid hpos0
  clear hpos0
  go_loopg [8] (distS a b) (fun q v wr => ∃ j : Nat, j ≤ distS a b ∧ Hid (q = distS a b - j) ∧ OwnI wr w.heap.size v ((wayN a b).take j) ∧ Blk wr g6 78 (walkC n (posS a b j) b) ∧ Below w.heap.size w wr)
  case atStart => exact ⟨0, by omega, Lib.hid (by omega), OwnI.nil _ _, by rw [HP0.out]; exact hB4, hbe4⟩
  case round =>
    clear hB4 hbe4
    obtain ⟨j, hj, hq, hown, hB3, hb3⟩ := hrel
    have hl3 := walkAt_of hB3
    have kp := posS_lt k1 k2 hj
    have hPD := Lib.hid (posS_dist hj)
    by_cases hlt : j < distS a b
    · have hPS := Lib.hid (posS_succ hlt)
      have hWT := Lib.hid (wayN_take hlt)
      have hlen : ((wayN a b).take j).length ≤ 1000000000 := by rw [List.length_take, wayN_length]; omega
      have hne := Lib.hid (show posS a b j ≠ b by intro e; have := hPD.out; rw [e] at this; unfold distS at this hlt; omega)
      obtain ⟨p, hp⟩ : ∃ p, posS a b j = p := ⟨_, rfl⟩
      rw [hp] at kp hPD hPS hWT hne hB3 hl3
      have hPP := Lib.hid hp
      clear hp
      obtain ⟨zs, hz⟩ : ∃ zs, (wayN a b).take j = zs := ⟨_, rfl⟩
      rw [hz] at hWT hlen hown
      clear hz
      go_wp2_with (first
        | (go_at_call 57
           have _t := hl3
           refine (size_walk n p b kp k2 _).mono ?_
           rintro e w4 ⟨rfl, hb4⟩
           rw [hPD.out]
           have hB4 := hB3.callee hb4
           have hown4 := hown.callee hb4
           have hbe4 := hb3.trans (hb4.mono hb3.size)
           have hl4 := walkAt_of hB4
           clear hl3 hB3 hown hb3 hb4)
        | (go_at_call 59
           have _t := hl4
           refine (step_any n p b hne.out kp k2 _ (hT.later hbe4)).mono ?_
           rintro e w5 ⟨rfl, hb5⟩
           have hB5 := hB4.callee hb5
           have hown5 := hown4.callee hb5
           have hbe5 := hbe4.trans (hb5.mono hbe4.size)
           clear hl4 hB4 hown4 hbe4 hb5)
        | (with_reducible show wpList _ _ _ (⟨some 10, .alloc 78, _, _, _, _⟩ :: _) _ _
           refine wpList_alloc_blk rfl 78 rfl _ zero_walk ?_
           intro w6 g10 hB6 hg6 hs6
           have hB66 := hB5.none_ hg6
           have hown6 := hown5.none_ hg6
           have hbe6 := below_none hbe5 hg6 hbe5.size
           have hne10 : g10 ≠ g6 := by have := hB5.lt; omega
           have hge10 : w.heap.size ≤ g10 := by have := hbe5.size; omega
           clear hg6 hB5 hown5 hbe5)
        | (with_reducible show wpList _ _ _ (⟨_, .store 78 (.tmp 10) (.tmp 32), _, _, _, _⟩ :: _) _ _
           refine wpList_store_blk rfl 78 _ _ rfl g10 (walkC n (stepTo p b) b) rfl rfl 78 (walkC 0 0 0) hB6 (info_walk _ _ _) rfl (walkC_one _ _ _) ?_
           intro w7 hB7 hg7
           have hB67 := hB66.some_ hg7 hne10.symm
           have hown7 := hown6.some_ hg7 (hown6.blk_ne hB6 (by decide))
           have hbe7 := below_some hbe6 hg7 hbe6.size hge10
           clear hg7 hB66 hown6 hbe6 hB6))
      go_region_held3 (fun w' => aggAt 78 3 w' g10 = some #[.int .i64 (n : Int), .int .i64 (stepTo p b : Nat), .int .i64 (b : Int)] ∧ (∃ cs, Blk w' g6 78 cs ∧ cs.size = 3) ∧ Blk w' g10 78 #[.int .i64 (n : Int), .int .i64 (stepTo p b : Nat), .int .i64 (b : Int)] ∧ Below w.heap.size w w')
        (first | assumption | exact wayS_of rfl ⟨_, hB67, rfl⟩ hB7 hbe7.drew | exact wayS_alloc rfl (by assumption) _ | exact wayS_push rfl (by assumption) (hown7.drew.none_ (World.grownBy_alloc w7.drew _ none)) (Nat.le_refl _) (by assumption) | exact wayS_store rfl (wayS_store rfl (wayS_store rfl (by assumption) hne10 hgg _ _) hne10 hgg _ _) hne10 hgg _ _)
        (first | (refine step_push rfl _ _ rfl rfl (hown7.drew.none_ (World.grownBy_alloc w7.drew _ none)) w7.heap.size 1 (nextS p b) rfl (Blk.new w7.drew _ _) hlen (by have := hbe7.size; show _ ≤ (w7.drew.heap.push _).size; simp; omega) ?_; intro g5 cap5 w8 hown8 hg8 hat8 hlt8; have hS8 := wayS_push rfl (by assumption) (hown7.drew.none_ (World.grownBy_alloc w7.drew _ none)) (Nat.le_refl _) hg8; obtain ⟨v0, v1, v2, hB8, q0, q1, q2, f0, f1, f2⟩ := wayS_cells hS8))
      obtain ⟨_, _, _, hbe8⟩ := hS8
      have hBf : Blk (((w8.setCell ⟨g6, 0, none⟩ (.int .i64 (n : Int))).setCell ⟨g6, 1, none⟩ (.int .i64 (stepTo p b : Nat))).setCell ⟨g6, 2, none⟩ (.int .i64 (b : Int))) g6 78 (walkC n (stepTo p b) b) := ((hB8.set_ 0 _).set_ 1 _).set_ 2 _
      have hn8 : (Value.slice (some ⟨g5, 0, none⟩) (zs.length + 1) cap5).ownBlock ≠ some g6 := hown8.blk_ne hB8 (by decide)
      have hownf := ((hown8.set_ (p := ⟨g6, 0, none⟩) hn8 (.int .i64 (n : Int))).set_ (p := ⟨g6, 1, none⟩) hn8 (.int .i64 (stepTo p b : Nat))).set_ (p := ⟨g6, 2, none⟩) hn8 (.int .i64 (b : Int))
      have hbef := ((hbe8.setCell (p := ⟨g6, 0, none⟩) hgg (.int .i64 (n : Int))).setCell (p := ⟨g6, 1, none⟩) hgg (.int .i64 (stepTo p b : Nat))).setCell (p := ⟨g6, 2, none⟩) hgg (.int .i64 (b : Int))
      clear hown8 hB8 hbe8 q0 q1 q2 f0 f1 f2
      go_wp2_with (fail)
      go_roundg (distS a b - (j + 1))
      case rel => exact ⟨j + 1, by omega, Lib.hid rfl, by rw [hWT.out]; exact hownf, by rw [hPS.out]; exact hBf, hbef⟩
      case measure => rw [hq.out]; omega
    · go_wp2_with (first
        | (go_at_call 57
           have _t := hl3
           refine (size_walk n (posS a b j) b kp k2 _).mono ?_
           rintro e w4 ⟨rfl, hb4⟩
           rw [hPD.out]
           have hown4 := hown.callee hb4
           have hbe4 := hb3.trans (hb4.mono hb3.size)
           clear hl3 hown hb3 hb4))
      go_ret2
      have hjj : (wayN a b).take j = wayN a b := List.take_of_length_le (by rw [wayN_length]; omega)
      rw [hjj] at hown4
      exact RetL_own hown4 (by rw [wayN_length]; omega) hbe4
end
theorem wayE_bad {xs ys : List Int} (h : bothE xs ys ≠ 0) : wayE xs ys = bothE xs ys := by rw [wayE, if_pos h]
set_option maxRecDepth 100000 in
set_option maxHeartbeats 2000000 in
theorem Way_any (A B : Option Addr) (n m c d : Nat) (xs ys : List Int) (w : World) (ha : RInts w w.heap.size A n xs) (hb : RInts w w.heap.size B m ys) (hn : n ≤ maxLen) (hm : m ≤ maxLen) (hT : Tab w) :
    Calls Tryd.prog 27 #[.slice A n c, .slice B m d] w (RetL (wayL xs ys) (wayE xs ys) w) := by
  by_cases he : bothE xs ys = 0
  · obtain ⟨rfl, hx, hy, l1, l2, h16, _, _⟩ := walked_pre ha hb he
    have k1 : numS xs < 65536 := by omega
    have k2 : numS ys < 65536 := by omega
    by_cases hd : distS (numS xs) (numS ys) ≤ 1000
    · have h0 : wayE xs ys = 0 := by rw [wayE, if_neg (by simp [he]), if_neg (by omega)]
      rw [h0, wayL, if_pos h0]
      exact Way_ok A B n c d xs ys w ha hb hn hT hx hy k1 k2 hd
    · have h0 : wayE xs ys = 3 := by rw [wayE, if_neg (by simp [he]), if_pos (by omega)]
      rw [h0, wayL, if_neg (by rw [h0]; decide)]
      have hX := Lib.hid hx
      have hY := Lib.hid hy
      clear hx hy l1 l2 h16 h0 he
      go_enter Tryd.func27, Tryd.ntmps27
      go_wp2_with (first
        | (go_at_call 56; refine (walked_ok A B n c d xs ys w ha hb hn hX.out hY.out).mono ?_; rintro e w1 ⟨rfl, hb1⟩; unfold walkC)
        | (go_at_call 57; refine (size_any _ _ _ k1 k2 _).mono ?_; rintro e w2 ⟨rfl, hb2⟩))
      go_ret2
      exact RetL_nil ((hb1.alloc hb1.size _).trans (hb2.mono (by simp; have := hb1.size; omega)))
  · have hE := Lib.hid he
    have hbb : (bothE xs ys != 0) = true := by simpa using he
    rw [wayL, wayE_bad he, if_neg he]
    clear he
    go_enter Tryd.func27, Tryd.ntmps27
    go_wp2_with (first
      | (go_at_call 56; refine (walked_bad A B n m c d xs ys w ha hb hn hm hE.out).mono ?_; rintro e w1 ⟨rfl, hb1⟩; unfold walkC))
    go_ret2
    exact RetL_nil (hb1.alloc hb1.size _)
end Go.Proofs.YtjhcemhnnkcjaaaDoor
