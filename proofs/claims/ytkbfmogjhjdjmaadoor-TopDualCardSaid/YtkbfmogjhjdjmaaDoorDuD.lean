/- pattern's side: meets. -/
import Derived.Test.YtkbfmogjhjdjmaaDoorDuAC
namespace Go.Proofs.YtkbfmogjhjdjmaaDoor
open Go.RowKit
namespace Du
set_option linter.unusedSimpArgs false
theorem run_index_agg {P : Program} {t e : TypeId} {len s : Nat} {d : TypeDesc} (cs : Array Value) (k : IntKind) (i : Nat) (ht : P.underlying t = some (.array len e)) (he : P.underlying e = some d)
    (hd : (match d with | .struct _ | .array _ _ => true | _ => false) = true) (hs : (P.info? e).map (·.size) = some s) (hi : i < len) (w : World) :
    (Instr.index t (.agg cs) (.int k (i : Int))).run P w = .ok (.agg (cs.extract (i * s) (i * s + s))) w := by
  cases hq : P.info? e with
  | none => simp [hq] at hs
  | some q =>
    have hs1 : q.size = s := by simpa [hq] using hs
    have hagg : (isAgg e).run P w = .ok true w := by
      unfold isAgg
      rw [Sem.run_bind, run_underlying he w]
      cases d <;> simp_all
    simp [Instr.index, asIntOf, run_underlying ht, hi, part, hagg, sizeOf, typeInfo, hq, hs1]
theorem index_side0 (x0 x1 x2 x3 : Value) (w : World) : (Instr.index 52 (.agg #[x0, x1, x2, x3]) (.int .i64 0)).run Tryd.prog w = .ok (.agg #[x0, x1]) w :=
  run_index_agg #[x0, x1, x2, x3] .i64 0 Tryd.underlying52 Tryd.underlying35 rfl info_pt (by decide) w
theorem index_side1 (x0 x1 x2 x3 : Value) (w : World) : (Instr.index 52 (.agg #[x0, x1, x2, x3]) (.int .i64 1)).run Tryd.prog w = .ok (.agg #[x2, x3]) w :=
  run_index_agg #[x0, x1, x2, x3] .i64 1 Tryd.underlying52 Tryd.underlying35 rfl info_pt (by decide) w
/-- what two sides have in common, as a value -/
def metV : Met → Value
  | .none => Value.nilIface
  | .cross => .iface 71 (.agg #[])
  | .pt p => .iface 35 (ptV p)
theorem ret_met {M M' : Met} {v : Value} (h : M = M') (hv : metV M' = v) : Ending.returned v = Ending.returned (metV M) := by rw [h, hv]
set_option maxRecDepth 100000 in
set_option maxHeartbeats 2000000 in
theorem meets_ok (s0 s1 t0 t1 : Pt) (h0 : Sm 12 s0) (h1 : Sm 12 s1) (k0 : Sm 12 t0) (k1 : Sm 12 t1) (w : World) : Calls Tryd.prog 20 #[sdV s0 s1, sdV t0 t1] w fun e w' => e = .returned (metV (meetsS s0 s1 t0 t1)) ∧ Below w.heap.size w w' := by
  have hS0 := Lib.hid (fun w' => has_ok t0 t1 s0 k0 k1 h0 w')
  have hS1 := Lib.hid (fun w' => has_ok t0 t1 s1 k0 k1 h1 w')
  have hT0 := Lib.hid (fun w' => has_ok s0 s1 t0 h0 h1 k0 w')
  have hT1 := Lib.hid (fun w' => has_ok s0 s1 t1 h0 h1 k1 w')
  obtain ⟨M, hM⟩ : ∃ M, meetsS s0 s1 t0 t1 = M := ⟨_, rfl⟩
  rw [hM]
  unfold meetsS at hM
  obtain ⟨x0, hx0⟩ : ∃ x, hasS t0 t1 s0 = x := ⟨_, rfl⟩
  obtain ⟨x1, hx1⟩ : ∃ x, hasS t0 t1 s1 = x := ⟨_, rfl⟩
  obtain ⟨y0, hy0⟩ : ∃ x, hasS s0 s1 t0 = x := ⟨_, rfl⟩
  obtain ⟨y1, hy1⟩ : ∃ x, hasS s0 s1 t1 = x := ⟨_, rfl⟩
  rw [hx0] at hS0
  rw [hx1] at hS1
  rw [hy0] at hT0
  rw [hy1] at hT1
  rw [hx0, hx1, hy0, hy1] at hM
  clear hx0 hx1 hy0 hy1
  unfold crossS at hM
  obtain ⟨V, hV⟩ : ∃ V, less s1 s0 = V := ⟨_, rfl⟩
  obtain ⟨W, hW⟩ : ∃ V, less t1 t0 = V := ⟨_, rfl⟩
  obtain ⟨n1, hn1⟩ : ∃ V, less t0 s0 = V := ⟨_, rfl⟩
  obtain ⟨n2, hn2⟩ : ∃ V, less t1 s0 = V := ⟨_, rfl⟩
  obtain ⟨n3, hn3⟩ : ∃ V, less s0 t0 = V := ⟨_, rfl⟩
  obtain ⟨n4, hn4⟩ : ∃ V, less s1 t0 = V := ⟨_, rfl⟩
  have lV := Lib.hid (fun w' => less_ok s1 s0 (h1.up (by decide)) (h0.up (by decide)) w')
  have lW := Lib.hid (fun w' => less_ok t1 t0 (k1.up (by decide)) (k0.up (by decide)) w')
  have l1 := Lib.hid (fun w' => less_ok t0 s0 (k0.up (by decide)) (h0.up (by decide)) w')
  have l2 := Lib.hid (fun w' => less_ok t1 s0 (k1.up (by decide)) (h0.up (by decide)) w')
  have l3 := Lib.hid (fun w' => less_ok s0 t0 (h0.up (by decide)) (k0.up (by decide)) w')
  have l4 := Lib.hid (fun w' => less_ok s1 t0 (h1.up (by decide)) (k0.up (by decide)) w')
  have q0 := hV ▸ sm_less h1 h0
  have q1 := hW ▸ sm_less k1 k0
  have q2 := hn1 ▸ sm_less k0 h0
  have q3 := hn2 ▸ sm_less k1 h0
  have q4 := hn3 ▸ sm_less h0 k0
  have q5 := hn4 ▸ sm_less h1 k0
  have m1 := Lib.hid (fun w' => times_ok V n1 (q0.up (by decide)) (q2.up (by decide)) w')
  have m2 := Lib.hid (fun w' => times_ok V n2 (q0.up (by decide)) (q3.up (by decide)) w')
  have m3 := Lib.hid (fun w' => times_ok W n3 (q1.up (by decide)) (q4.up (by decide)) w')
  have m4 := Lib.hid (fun w' => times_ok W n4 (q1.up (by decide)) (q5.up (by decide)) w')
  rw [hV] at lV
  rw [hW] at lW
  rw [hn1] at l1
  rw [hn2] at l2
  rw [hn3] at l3
  rw [hn4] at l4
  rw [hV, hW, hn1, hn2, hn3, hn4] at hM
  obtain ⟨z1, hz1⟩ : ∃ z, times V n1 = z := ⟨_, rfl⟩
  obtain ⟨z2, hz2⟩ : ∃ z, times V n2 = z := ⟨_, rfl⟩
  obtain ⟨z3, hz3⟩ : ∃ z, times W n3 = z := ⟨_, rfl⟩
  obtain ⟨z4, hz4⟩ : ∃ z, times W n4 = z := ⟨_, rfl⟩
  rw [hz1] at m1
  rw [hz2] at m2
  rw [hz3] at m3
  rw [hz4] at m4
  rw [hz1, hz2, hz3, hz4] at hM
  clear hV hW hn1 hn2 hn3 hn4 hz1 hz2 hz3 hz4 q0 q1 q2 q3 q4 q5 h0 h1 k0 k1
  replace hM := Lib.hid hM
  obtain ⟨a, b⟩ := s0
  obtain ⟨c, d⟩ := s1
  obtain ⟨p, q⟩ := t0
  obtain ⟨r, s⟩ := t1
  obtain ⟨V1, V2⟩ := V
  obtain ⟨W1, W2⟩ := W
  have I0 := index_side0
  have I1 := index_side1
  unfold sdV
  go_enter Tryd.func20, Tryd.ntmps20
  go_wp2_with (first
    | (with_reducible show wpList _ _ _ (⟨some 2, .box 52 _, _, _, _, _⟩ :: _) _ _
       refine wpList_box_blk rfl 52 _ rfl #[.int .i64 a, .int .i64 b, .int .i64 c, .int .i64 d] rfl ?_
       intro w1 g1 hG1 hgr1 hge1
       have hb1 := below_none (Below.refl w.heap.size w) hgr1 (Nat.le_refl _)
       clear hge1)
    | (with_reducible show wpList _ _ _ (⟨some 3, .box 52 _, _, _, _, _⟩ :: _) _ _
       refine wpList_box_blk rfl 52 _ rfl #[.int .i64 p, .int .i64 q, .int .i64 r, .int .i64 s] rfl ?_
       intro w2 g2 hG2 hgr2 hge2
       have hb2 := below_none hb1 hgr2 hb1.size
       have hG12 := hG1.none_ hgr2
       have e1 : w2.cell? ⟨g1, 0, none⟩ = some (.int .i64 a) := hG12.cell 0
       have e2 : w2.cell? ⟨g1, 1, none⟩ = some (.int .i64 b) := hG12.cell 1
       have e3 : w2.cell? ⟨g1, 2, none⟩ = some (.int .i64 c) := hG12.cell 2
       have e4 : w2.cell? ⟨g1, 3, none⟩ = some (.int .i64 d) := hG12.cell 3
       clear hgr2 hge2))
  clear e1 e2 e3 e4 hG1 hb1 hgr1
  go_loopw [12] (fun v wr => ∃ k : Nat, k ≤ 2 ∧ v = .int .i64 k ∧ (1 ≤ k → x0 = false) ∧ (2 ≤ k → x1 = false) ∧ Below w2.heap.size w2 wr) (fun v _ => 2 - (intOf v).toNat)
  case atStart => exact ⟨0, by omega, rfl, by omega, by omega, Below.refl _ _⟩
  case round =>
    obtain ⟨k, hk, rfl, hf0, hf1, hb⟩ := hrel
    obtain ⟨wa, rfl⟩ : ∃ x, x = wr := ⟨wr, rfl⟩
    have hGo := hG2.callee hb
    have hG1o := hG12.callee hb
    have hG2o := hG2.callee hb
    have c0' : wa.cell? ⟨g1, 0, none⟩ = some (.int .i64 a) := hG1o.cell 0
    have c1' : wa.cell? ⟨g1, 1, none⟩ = some (.int .i64 b) := hG1o.cell 1
    have c2' : wa.cell? ⟨g1, 2, none⟩ = some (.int .i64 c) := hG1o.cell 2
    have c3' : wa.cell? ⟨g1, 3, none⟩ = some (.int .i64 d) := hG1o.cell 3
    have d0' : wa.cell? ⟨g2, 0, none⟩ = some (.int .i64 p) := hG2o.cell 0
    have d1' : wa.cell? ⟨g2, 1, none⟩ = some (.int .i64 q) := hG2o.cell 1
    have d2' : wa.cell? ⟨g2, 2, none⟩ = some (.int .i64 r) := hG2o.cell 2
    have d3' : wa.cell? ⟨g2, 3, none⟩ = some (.int .i64 s) := hG2o.cell 3
    rcases (show k = 0 ∨ k = 1 ∨ k = 2 by omega) with rfl | rfl | rfl
    · clear hf1
      clear hf0
      cases x0 with
      | true =>
        go_wp2_with (first
          | (with_reducible show wpList _ _ _ (⟨_, .alloc 35, _, _, _, _⟩ :: _) _ _
             refine wpList_alloc_blk rfl 35 rfl _ zero_pt ?_
             intro w3 g3 hG3 hgr3 hge3
             have hb3 := below_none hb hgr3 hb.size
             have hG23 := hGo.none_ hgr3)
          | (with_reducible show wpList _ _ _ (⟨_, .store 35 _ _, _, _, _, _⟩ :: _) _ _
             refine wpList_store_blk rfl 35 _ _ rfl g3 #[.int .i64 a, .int .i64 b] rfl rfl 35 _ hG3 info_pt rfl (by simp [Value.oneCell']) ?_
             intro w4 hG4 hgr4
             have hge := hb.size
             have hb4 := below_some hb3 hgr4 hb3.size (by omega)
             have hG24 := hG23.some_ hgr4 (by have := hGo.lt; omega)
             have e0' : w4.cell? ⟨g2, 0, none⟩ = some (.int .i64 p) := hG24.cell 0
             have e1' : w4.cell? ⟨g2, 1, none⟩ = some (.int .i64 q) := hG24.cell 1
             have e2' : w4.cell? ⟨g2, 2, none⟩ = some (.int .i64 r) := hG24.cell 2
             have e3' : w4.cell? ⟨g2, 3, none⟩ = some (.int .i64 s) := hG24.cell 3
             have f1' : w4.cell? ⟨g3, 0, none⟩ = some (.int .i64 a) := hG4.cell 0
             have f2' : w4.cell? ⟨g3, 1, none⟩ = some (.int .i64 b) := hG4.cell 1)
          | (go_at_call 19; (with_reducible refine (hS0.out _).mono ?_); rintro e w5 ⟨rfl, hb5⟩
             have hG5 := hG4.callee hb5
             have f1'' : w5.cell? ⟨g3, 0, none⟩ = some (.int .i64 a) := hG5.cell 0
             have f2'' : w5.cell? ⟨g3, 1, none⟩ = some (.int .i64 b) := hG5.cell 1
             have hb6 := hb4.trans (hb5.mono hb4.size)))
        go_ret
        exact ⟨ret_met (M' := .pt (a, b)) (by rw [← hM.out]; simp) rfl, hb2.trans (hb6.mono hb2.size)⟩
      | false =>
        go_wp2_with (first
          | (with_reducible show wpList _ _ _ (⟨_, .alloc 35, _, _, _, _⟩ :: _) _ _
             refine wpList_alloc_blk rfl 35 rfl _ zero_pt ?_
             intro w3 g3 hG3 hgr3 hge3
             have hb3 := below_none hb hgr3 hb.size
             have hG23 := hGo.none_ hgr3)
          | (with_reducible show wpList _ _ _ (⟨_, .store 35 _ _, _, _, _, _⟩ :: _) _ _
             refine wpList_store_blk rfl 35 _ _ rfl g3 #[.int .i64 a, .int .i64 b] rfl rfl 35 _ hG3 info_pt rfl (by simp [Value.oneCell']) ?_
             intro w4 hG4 hgr4
             have hge := hb.size
             have hb4 := below_some hb3 hgr4 hb3.size (by omega)
             have hG24 := hG23.some_ hgr4 (by have := hGo.lt; omega)
             have e0' : w4.cell? ⟨g2, 0, none⟩ = some (.int .i64 p) := hG24.cell 0
             have e1' : w4.cell? ⟨g2, 1, none⟩ = some (.int .i64 q) := hG24.cell 1
             have e2' : w4.cell? ⟨g2, 2, none⟩ = some (.int .i64 r) := hG24.cell 2
             have e3' : w4.cell? ⟨g2, 3, none⟩ = some (.int .i64 s) := hG24.cell 3
             have f1' : w4.cell? ⟨g3, 0, none⟩ = some (.int .i64 a) := hG4.cell 0
             have f2' : w4.cell? ⟨g3, 1, none⟩ = some (.int .i64 b) := hG4.cell 1)
          | (go_at_call 19; (with_reducible refine (hS0.out _).mono ?_); rintro e w5 ⟨rfl, hb5⟩
             have hG5 := hG4.callee hb5
             have f1'' : w5.cell? ⟨g3, 0, none⟩ = some (.int .i64 a) := hG5.cell 0
             have f2'' : w5.cell? ⟨g3, 1, none⟩ = some (.int .i64 b) := hG5.cell 1
             have hb6 := hb4.trans (hb5.mono hb4.size)))
        go_roundw
        case rel => exact ⟨1, by omega, rfl, fun _ => (by first | rfl | trivial), fun h => absurd h (by omega), hb6⟩
        case measure => simp [intOf]
    · clear hf1
      have hp0 := hf0 (by omega)
      replace hp0 := Lib.hid hp0
      clear hf0
      cases x1 with
      | true =>
        go_wp2_with (first
          | (with_reducible show wpList _ _ _ (⟨_, .alloc 35, _, _, _, _⟩ :: _) _ _
             refine wpList_alloc_blk rfl 35 rfl _ zero_pt ?_
             intro w3 g3 hG3 hgr3 hge3
             have hb3 := below_none hb hgr3 hb.size
             have hG23 := hGo.none_ hgr3)
          | (with_reducible show wpList _ _ _ (⟨_, .store 35 _ _, _, _, _, _⟩ :: _) _ _
             refine wpList_store_blk rfl 35 _ _ rfl g3 #[.int .i64 c, .int .i64 d] rfl rfl 35 _ hG3 info_pt rfl (by simp [Value.oneCell']) ?_
             intro w4 hG4 hgr4
             have hge := hb.size
             have hb4 := below_some hb3 hgr4 hb3.size (by omega)
             have hG24 := hG23.some_ hgr4 (by have := hGo.lt; omega)
             have e0' : w4.cell? ⟨g2, 0, none⟩ = some (.int .i64 p) := hG24.cell 0
             have e1' : w4.cell? ⟨g2, 1, none⟩ = some (.int .i64 q) := hG24.cell 1
             have e2' : w4.cell? ⟨g2, 2, none⟩ = some (.int .i64 r) := hG24.cell 2
             have e3' : w4.cell? ⟨g2, 3, none⟩ = some (.int .i64 s) := hG24.cell 3
             have f1' : w4.cell? ⟨g3, 0, none⟩ = some (.int .i64 c) := hG4.cell 0
             have f2' : w4.cell? ⟨g3, 1, none⟩ = some (.int .i64 d) := hG4.cell 1)
          | (go_at_call 19; (with_reducible refine (hS1.out _).mono ?_); rintro e w5 ⟨rfl, hb5⟩
             have hG5 := hG4.callee hb5
             have f1'' : w5.cell? ⟨g3, 0, none⟩ = some (.int .i64 c) := hG5.cell 0
             have f2'' : w5.cell? ⟨g3, 1, none⟩ = some (.int .i64 d) := hG5.cell 1
             have hb6 := hb4.trans (hb5.mono hb4.size)))
        go_ret
        exact ⟨ret_met (M' := .pt (c, d)) (by rw [← hM.out]; simp [hp0.out]) rfl, hb2.trans (hb6.mono hb2.size)⟩
      | false =>
        go_wp2_with (first
          | (with_reducible show wpList _ _ _ (⟨_, .alloc 35, _, _, _, _⟩ :: _) _ _
             refine wpList_alloc_blk rfl 35 rfl _ zero_pt ?_
             intro w3 g3 hG3 hgr3 hge3
             have hb3 := below_none hb hgr3 hb.size
             have hG23 := hGo.none_ hgr3)
          | (with_reducible show wpList _ _ _ (⟨_, .store 35 _ _, _, _, _, _⟩ :: _) _ _
             refine wpList_store_blk rfl 35 _ _ rfl g3 #[.int .i64 c, .int .i64 d] rfl rfl 35 _ hG3 info_pt rfl (by simp [Value.oneCell']) ?_
             intro w4 hG4 hgr4
             have hge := hb.size
             have hb4 := below_some hb3 hgr4 hb3.size (by omega)
             have hG24 := hG23.some_ hgr4 (by have := hGo.lt; omega)
             have e0' : w4.cell? ⟨g2, 0, none⟩ = some (.int .i64 p) := hG24.cell 0
             have e1' : w4.cell? ⟨g2, 1, none⟩ = some (.int .i64 q) := hG24.cell 1
             have e2' : w4.cell? ⟨g2, 2, none⟩ = some (.int .i64 r) := hG24.cell 2
             have e3' : w4.cell? ⟨g2, 3, none⟩ = some (.int .i64 s) := hG24.cell 3
             have f1' : w4.cell? ⟨g3, 0, none⟩ = some (.int .i64 c) := hG4.cell 0
             have f2' : w4.cell? ⟨g3, 1, none⟩ = some (.int .i64 d) := hG4.cell 1)
          | (go_at_call 19; (with_reducible refine (hS1.out _).mono ?_); rintro e w5 ⟨rfl, hb5⟩
             have hG5 := hG4.callee hb5
             have f1'' : w5.cell? ⟨g3, 0, none⟩ = some (.int .i64 c) := hG5.cell 0
             have f2'' : w5.cell? ⟨g3, 1, none⟩ = some (.int .i64 d) := hG5.cell 1
             have hb6 := hb4.trans (hb5.mono hb4.size)))
        go_roundw
        case rel => exact ⟨2, by omega, rfl, fun _ => hp0.out, fun _ => (by first | rfl | trivial), hb6⟩
        case measure => simp [intOf]
    · have hp0 := Lib.hid (hf0 (by omega))
      have hp1 := Lib.hid (hf1 (by omega))
      clear hf0 hf1
      simp only [show (((2 : Nat) : Int)) = 2 from rfl]
      go_wp2_with (fail)
      obtain ⟨_, hx0⟩ : True ∧ Hid (x0 = false) := ⟨trivial, hp0⟩
      obtain ⟨_, hx1⟩ : True ∧ Hid (x1 = false) := ⟨trivial, hp1⟩
      clear hp0 hp1 hGo hG1o hG2o
      clear c0' d0'
      clear c1' d1'
      clear c2' d2'
      clear c3' d3'
      go_loopw [22] (fun v wr => ∃ k : Nat, k ≤ 2 ∧ v = .int .i64 k ∧ (1 ≤ k → y0 = false) ∧ (2 ≤ k → y1 = false) ∧ Below w2.heap.size w2 wr) (fun v _ => 2 - (intOf v).toNat)
      case atStart => exact ⟨0, by omega, rfl, by omega, by omega, hb⟩
      case round =>
        obtain ⟨k, hk, rfl, hf0, hf1, hb⟩ := hrel
        obtain ⟨wc, rfl⟩ : ∃ x, x = wr := ⟨wr, rfl⟩
        have hGo := hG12.callee hb
        have hG1o := hG12.callee hb
        have hG2o := hG2.callee hb
        have c0' : wc.cell? ⟨g1, 0, none⟩ = some (.int .i64 a) := hG1o.cell 0
        have c1' : wc.cell? ⟨g1, 1, none⟩ = some (.int .i64 b) := hG1o.cell 1
        have c2' : wc.cell? ⟨g1, 2, none⟩ = some (.int .i64 c) := hG1o.cell 2
        have c3' : wc.cell? ⟨g1, 3, none⟩ = some (.int .i64 d) := hG1o.cell 3
        have d0' : wc.cell? ⟨g2, 0, none⟩ = some (.int .i64 p) := hG2o.cell 0
        have d1' : wc.cell? ⟨g2, 1, none⟩ = some (.int .i64 q) := hG2o.cell 1
        have d2' : wc.cell? ⟨g2, 2, none⟩ = some (.int .i64 r) := hG2o.cell 2
        have d3' : wc.cell? ⟨g2, 3, none⟩ = some (.int .i64 s) := hG2o.cell 3
        rcases (show k = 0 ∨ k = 1 ∨ k = 2 by omega) with rfl | rfl | rfl
        · clear hf1
          clear hf0
          cases y0 with
          | true =>
            go_wp2_with (first
              | (with_reducible show wpList _ _ _ (⟨_, .alloc 35, _, _, _, _⟩ :: _) _ _
                 refine wpList_alloc_blk rfl 35 rfl _ zero_pt ?_
                 intro w3 g3 hG3 hgr3 hge3
                 have hb3 := below_none hb hgr3 hb.size
                 have hG23 := hGo.none_ hgr3)
              | (with_reducible show wpList _ _ _ (⟨_, .store 35 _ _, _, _, _, _⟩ :: _) _ _
                 refine wpList_store_blk rfl 35 _ _ rfl g3 #[.int .i64 p, .int .i64 q] rfl rfl 35 _ hG3 info_pt rfl (by simp [Value.oneCell']) ?_
                 intro w4 hG4 hgr4
                 have hge := hb.size
                 have hb4 := below_some hb3 hgr4 hb3.size (by omega)
                 have hG24 := hG23.some_ hgr4 (by have := hGo.lt; omega)
                 have e0' : w4.cell? ⟨g1, 0, none⟩ = some (.int .i64 a) := hG24.cell 0
                 have e1' : w4.cell? ⟨g1, 1, none⟩ = some (.int .i64 b) := hG24.cell 1
                 have e2' : w4.cell? ⟨g1, 2, none⟩ = some (.int .i64 c) := hG24.cell 2
                 have e3' : w4.cell? ⟨g1, 3, none⟩ = some (.int .i64 d) := hG24.cell 3
                 have f1' : w4.cell? ⟨g3, 0, none⟩ = some (.int .i64 p) := hG4.cell 0
                 have f2' : w4.cell? ⟨g3, 1, none⟩ = some (.int .i64 q) := hG4.cell 1)
              | (go_at_call 19; (with_reducible refine (hT0.out _).mono ?_); rintro e w5 ⟨rfl, hb5⟩
                 have hG5 := hG4.callee hb5
                 have f1'' : w5.cell? ⟨g3, 0, none⟩ = some (.int .i64 p) := hG5.cell 0
                 have f2'' : w5.cell? ⟨g3, 1, none⟩ = some (.int .i64 q) := hG5.cell 1
                 have hb6 := hb4.trans (hb5.mono hb4.size)))
            go_ret
            exact ⟨ret_met (M' := .pt (p, q)) (by rw [← hM.out]; simp [hx0.out, hx1.out]) rfl, hb2.trans (hb6.mono hb2.size)⟩
          | false =>
            go_wp2_with (first
              | (with_reducible show wpList _ _ _ (⟨_, .alloc 35, _, _, _, _⟩ :: _) _ _
                 refine wpList_alloc_blk rfl 35 rfl _ zero_pt ?_
                 intro w3 g3 hG3 hgr3 hge3
                 have hb3 := below_none hb hgr3 hb.size
                 have hG23 := hGo.none_ hgr3)
              | (with_reducible show wpList _ _ _ (⟨_, .store 35 _ _, _, _, _, _⟩ :: _) _ _
                 refine wpList_store_blk rfl 35 _ _ rfl g3 #[.int .i64 p, .int .i64 q] rfl rfl 35 _ hG3 info_pt rfl (by simp [Value.oneCell']) ?_
                 intro w4 hG4 hgr4
                 have hge := hb.size
                 have hb4 := below_some hb3 hgr4 hb3.size (by omega)
                 have hG24 := hG23.some_ hgr4 (by have := hGo.lt; omega)
                 have e0' : w4.cell? ⟨g1, 0, none⟩ = some (.int .i64 a) := hG24.cell 0
                 have e1' : w4.cell? ⟨g1, 1, none⟩ = some (.int .i64 b) := hG24.cell 1
                 have e2' : w4.cell? ⟨g1, 2, none⟩ = some (.int .i64 c) := hG24.cell 2
                 have e3' : w4.cell? ⟨g1, 3, none⟩ = some (.int .i64 d) := hG24.cell 3
                 have f1' : w4.cell? ⟨g3, 0, none⟩ = some (.int .i64 p) := hG4.cell 0
                 have f2' : w4.cell? ⟨g3, 1, none⟩ = some (.int .i64 q) := hG4.cell 1)
              | (go_at_call 19; (with_reducible refine (hT0.out _).mono ?_); rintro e w5 ⟨rfl, hb5⟩
                 have hG5 := hG4.callee hb5
                 have f1'' : w5.cell? ⟨g3, 0, none⟩ = some (.int .i64 p) := hG5.cell 0
                 have f2'' : w5.cell? ⟨g3, 1, none⟩ = some (.int .i64 q) := hG5.cell 1
                 have hb6 := hb4.trans (hb5.mono hb4.size)))
            go_roundw
            case rel => exact ⟨1, by omega, rfl, fun _ => (by first | rfl | trivial), fun h => absurd h (by omega), hb6⟩
            case measure => simp [intOf]
        · clear hf1
          have hp0 := hf0 (by omega)
          replace hp0 := Lib.hid hp0
          clear hf0
          cases y1 with
          | true =>
            go_wp2_with (first
              | (with_reducible show wpList _ _ _ (⟨_, .alloc 35, _, _, _, _⟩ :: _) _ _
                 refine wpList_alloc_blk rfl 35 rfl _ zero_pt ?_
                 intro w3 g3 hG3 hgr3 hge3
                 have hb3 := below_none hb hgr3 hb.size
                 have hG23 := hGo.none_ hgr3)
              | (with_reducible show wpList _ _ _ (⟨_, .store 35 _ _, _, _, _, _⟩ :: _) _ _
                 refine wpList_store_blk rfl 35 _ _ rfl g3 #[.int .i64 r, .int .i64 s] rfl rfl 35 _ hG3 info_pt rfl (by simp [Value.oneCell']) ?_
                 intro w4 hG4 hgr4
                 have hge := hb.size
                 have hb4 := below_some hb3 hgr4 hb3.size (by omega)
                 have hG24 := hG23.some_ hgr4 (by have := hGo.lt; omega)
                 have e0' : w4.cell? ⟨g1, 0, none⟩ = some (.int .i64 a) := hG24.cell 0
                 have e1' : w4.cell? ⟨g1, 1, none⟩ = some (.int .i64 b) := hG24.cell 1
                 have e2' : w4.cell? ⟨g1, 2, none⟩ = some (.int .i64 c) := hG24.cell 2
                 have e3' : w4.cell? ⟨g1, 3, none⟩ = some (.int .i64 d) := hG24.cell 3
                 have f1' : w4.cell? ⟨g3, 0, none⟩ = some (.int .i64 r) := hG4.cell 0
                 have f2' : w4.cell? ⟨g3, 1, none⟩ = some (.int .i64 s) := hG4.cell 1)
              | (go_at_call 19; (with_reducible refine (hT1.out _).mono ?_); rintro e w5 ⟨rfl, hb5⟩
                 have hG5 := hG4.callee hb5
                 have f1'' : w5.cell? ⟨g3, 0, none⟩ = some (.int .i64 r) := hG5.cell 0
                 have f2'' : w5.cell? ⟨g3, 1, none⟩ = some (.int .i64 s) := hG5.cell 1
                 have hb6 := hb4.trans (hb5.mono hb4.size)))
            go_ret
            exact ⟨ret_met (M' := .pt (r, s)) (by rw [← hM.out]; simp [hx0.out, hx1.out, hp0.out]) rfl, hb2.trans (hb6.mono hb2.size)⟩
          | false =>
            go_wp2_with (first
              | (with_reducible show wpList _ _ _ (⟨_, .alloc 35, _, _, _, _⟩ :: _) _ _
                 refine wpList_alloc_blk rfl 35 rfl _ zero_pt ?_
                 intro w3 g3 hG3 hgr3 hge3
                 have hb3 := below_none hb hgr3 hb.size
                 have hG23 := hGo.none_ hgr3)
              | (with_reducible show wpList _ _ _ (⟨_, .store 35 _ _, _, _, _, _⟩ :: _) _ _
                 refine wpList_store_blk rfl 35 _ _ rfl g3 #[.int .i64 r, .int .i64 s] rfl rfl 35 _ hG3 info_pt rfl (by simp [Value.oneCell']) ?_
                 intro w4 hG4 hgr4
                 have hge := hb.size
                 have hb4 := below_some hb3 hgr4 hb3.size (by omega)
                 have hG24 := hG23.some_ hgr4 (by have := hGo.lt; omega)
                 have e0' : w4.cell? ⟨g1, 0, none⟩ = some (.int .i64 a) := hG24.cell 0
                 have e1' : w4.cell? ⟨g1, 1, none⟩ = some (.int .i64 b) := hG24.cell 1
                 have e2' : w4.cell? ⟨g1, 2, none⟩ = some (.int .i64 c) := hG24.cell 2
                 have e3' : w4.cell? ⟨g1, 3, none⟩ = some (.int .i64 d) := hG24.cell 3
                 have f1' : w4.cell? ⟨g3, 0, none⟩ = some (.int .i64 r) := hG4.cell 0
                 have f2' : w4.cell? ⟨g3, 1, none⟩ = some (.int .i64 s) := hG4.cell 1)
              | (go_at_call 19; (with_reducible refine (hT1.out _).mono ?_); rintro e w5 ⟨rfl, hb5⟩
                 have hG5 := hG4.callee hb5
                 have f1'' : w5.cell? ⟨g3, 0, none⟩ = some (.int .i64 r) := hG5.cell 0
                 have f2'' : w5.cell? ⟨g3, 1, none⟩ = some (.int .i64 s) := hG5.cell 1
                 have hb6 := hb4.trans (hb5.mono hb4.size)))
            go_roundw
            case rel => exact ⟨2, by omega, rfl, fun _ => hp0.out, fun _ => (by first | rfl | trivial), hb6⟩
            case measure => simp [intOf]
        · have hp0 := Lib.hid (hf0 (by omega))
          have hp1 := Lib.hid (hf1 (by omega))
          clear hf0 hf1
          simp only [show (((2 : Nat) : Int)) = 2 from rfl]
          go_wp2_with (fail)
          clear hGo
          clear c0' d0'
          clear c1' d1'
          clear c2' d2'
          clear c3' d3'
          have hC : Hid (∀ w', Below wc.drew.heap.size wc.drew w' → w'.cell? ⟨g1, 0, none⟩ = some (.int .i64 a) ∧ w'.cell? ⟨g1, 1, none⟩ = some (.int .i64 b) ∧ w'.cell? ⟨g1, 2, none⟩ = some (.int .i64 c) ∧ w'.cell? ⟨g1, 3, none⟩ = some (.int .i64 d) ∧ w'.cell? ⟨g2, 0, none⟩ = some (.int .i64 p) ∧ w'.cell? ⟨g2, 1, none⟩ = some (.int .i64 q) ∧ w'.cell? ⟨g2, 2, none⟩ = some (.int .i64 r) ∧ w'.cell? ⟨g2, 3, none⟩ = some (.int .i64 s)) := fun w' hw =>
            have k1 := hG1o.drew.callee hw
            have k2 := hG2o.drew.callee hw
            ⟨k1.cell 0, k1.cell 1, k1.cell 2, k1.cell 3, k2.cell 0, k2.cell 1, k2.cell 2, k2.cell 3⟩
          refine De.region_det (by kernel_rfl) (by kernel_rfl) ?_
          refine De.Det.read (o := ?o1) (v := ?v1) 0 ?q1 (by kernel_rfl) (by kernel_rfl) ?w1 ?y1 ?h1
          case q1 => (simp only [List.getElem?_toArray, List.getElem?_cons_succ, List.getElem?_cons_zero]; rfl)
          case w1 => kernel_rfl
          case y1 => (intro w' hw'; obtain ⟨c1, c2, c3, c4, c5, c6, c7, c8⟩ := hC.out w' hw'; go_simp; (try with_reducible rfl))
          (try simp only [Act.put, List.setIfInBounds_toArray, List.set_cons_zero, List.set_cons_succ])
          refine De.Det.read (o := ?o2) (v := ?v2) 1 ?q2 (by kernel_rfl) (by kernel_rfl) ?w2 ?y2 ?h2
          case q2 => (simp only [List.getElem?_toArray, List.getElem?_cons_succ, List.getElem?_cons_zero]; rfl)
          case w2 => kernel_rfl
          case y2 => (intro w' hw'; obtain ⟨c1, c2, c3, c4, c5, c6, c7, c8⟩ := hC.out w' hw'; go_simp; (try with_reducible rfl))
          (try simp only [Act.put, List.setIfInBounds_toArray, List.set_cons_zero, List.set_cons_succ])
          refine De.Det.read (o := ?o3) (v := ?v3) 2 ?q3 (by kernel_rfl) (by kernel_rfl) ?w3 ?y3 ?h3
          case q3 => (simp only [List.getElem?_toArray, List.getElem?_cons_succ, List.getElem?_cons_zero]; rfl)
          case w3 => kernel_rfl
          case y3 => (intro w' hw'; obtain ⟨c1, c2, c3, c4, c5, c6, c7, c8⟩ := hC.out w' hw'; go_simp; (try with_reducible rfl))
          (try simp only [Act.put, List.setIfInBounds_toArray, List.set_cons_zero, List.set_cons_succ])
          refine De.Det.read (o := ?o4) (v := ?v4) 3 ?q4 (by kernel_rfl) (by kernel_rfl) ?w4 ?y4 ?h4
          case q4 => (simp only [List.getElem?_toArray, List.getElem?_cons_succ, List.getElem?_cons_zero]; rfl)
          case w4 => kernel_rfl
          case y4 => (intro w' hw'; obtain ⟨c1, c2, c3, c4, c5, c6, c7, c8⟩ := hC.out w' hw'; go_simp; (try with_reducible rfl))
          (try simp only [Act.put, List.setIfInBounds_toArray, List.set_cons_zero, List.set_cons_succ])
          refine De.Det.call (o := ?o5) (v := ?v5) (f := ?f5) (args := ?g5) 4 ?q5 (by kernel_rfl) (by kernel_rfl) ?w5 ?e5 ?c5 ?h5
          case q5 => (simp only [List.getElem?_toArray, List.getElem?_cons_succ, List.getElem?_cons_zero]; rfl)
          case w5 => kernel_rfl
          case e5 => (intro w'; go_simp; refine ⟨?_, ?_⟩ <;> with_reducible rfl)
          case c5 => (intro w' hw'; exact (lV.out w'))
          (try simp only [Act.put, List.setIfInBounds_toArray, List.set_cons_zero, List.set_cons_succ])
          refine De.Det.read (o := ?o6) (v := ?v6) 5 ?q6 (by kernel_rfl) (by kernel_rfl) ?w6 ?y6 ?h6
          case q6 => (simp only [List.getElem?_toArray, List.getElem?_cons_succ, List.getElem?_cons_zero]; rfl)
          case w6 => kernel_rfl
          case y6 => (intro w' hw'; obtain ⟨c1, c2, c3, c4, c5, c6, c7, c8⟩ := hC.out w' hw'; go_simp; (try with_reducible rfl))
          (try simp only [Act.put, List.setIfInBounds_toArray, List.set_cons_zero, List.set_cons_succ])
          refine De.Det.read (o := ?o7) (v := ?v7) 6 ?q7 (by kernel_rfl) (by kernel_rfl) ?w7 ?y7 ?h7
          case q7 => (simp only [List.getElem?_toArray, List.getElem?_cons_succ, List.getElem?_cons_zero]; rfl)
          case w7 => kernel_rfl
          case y7 => (intro w' hw'; obtain ⟨c1, c2, c3, c4, c5, c6, c7, c8⟩ := hC.out w' hw'; go_simp; (try with_reducible rfl))
          (try simp only [Act.put, List.setIfInBounds_toArray, List.set_cons_zero, List.set_cons_succ])
          refine De.Det.read (o := ?o8) (v := ?v8) 7 ?q8 (by kernel_rfl) (by kernel_rfl) ?w8 ?y8 ?h8
          case q8 => (simp only [List.getElem?_toArray, List.getElem?_cons_succ, List.getElem?_cons_zero]; rfl)
          case w8 => kernel_rfl
          case y8 => (intro w' hw'; obtain ⟨c1, c2, c3, c4, c5, c6, c7, c8⟩ := hC.out w' hw'; go_simp; (try with_reducible rfl))
          (try simp only [Act.put, List.setIfInBounds_toArray, List.set_cons_zero, List.set_cons_succ])
          refine De.Det.read (o := ?o9) (v := ?v9) 8 ?q9 (by kernel_rfl) (by kernel_rfl) ?w9 ?y9 ?h9
          case q9 => (simp only [List.getElem?_toArray, List.getElem?_cons_succ, List.getElem?_cons_zero]; rfl)
          case w9 => kernel_rfl
          case y9 => (intro w' hw'; obtain ⟨c1, c2, c3, c4, c5, c6, c7, c8⟩ := hC.out w' hw'; go_simp; (try with_reducible rfl))
          (try simp only [Act.put, List.setIfInBounds_toArray, List.set_cons_zero, List.set_cons_succ])
          refine De.Det.call (o := ?o10) (v := ?v10) (f := ?f10) (args := ?g10) 9 ?q10 (by kernel_rfl) (by kernel_rfl) ?w10 ?e10 ?c10 ?h10
          case q10 => (simp only [List.getElem?_toArray, List.getElem?_cons_succ, List.getElem?_cons_zero]; rfl)
          case w10 => kernel_rfl
          case e10 => (intro w'; go_simp; refine ⟨?_, ?_⟩ <;> with_reducible rfl)
          case c10 => (intro w' hw'; exact (lW.out w'))
          (try simp only [Act.put, List.setIfInBounds_toArray, List.set_cons_zero, List.set_cons_succ])
          refine De.Det.base ?_
          refine De.Det2.new (o := ?o11) 10 35 _ ?q11 (by kernel_rfl) (by kernel_rfl) ?k11 ?l11 zero_pt (fun g9 hn_g9 => ?_)
          case q11 => (simp only [List.getElem?_toArray, List.getElem?_cons_succ, List.getElem?_cons_zero]; rfl)
          case k11 => rfl
          case l11 => rfl
          clear hn_g9
          (try simp only [Act.put, List.setIfInBounds_toArray, List.set_cons_zero, List.set_cons_succ])
          refine De.Det2.new (o := ?o12) 11 35 _ ?q12 (by kernel_rfl) (by kernel_rfl) ?k12 ?l12 zero_pt (fun g10 hn_g10 => ?_)
          case q12 => (simp only [List.getElem?_toArray, List.getElem?_cons_succ, List.getElem?_cons_zero]; rfl)
          case k12 => rfl
          case l12 => rfl
          obtain ⟨ne_g10_g9, hn_g10⟩ := De.Own.of_none hn_g10
          have ne_g9_g10 := Ne.symm ne_g10_g9
          clear hn_g10
          (try simp only [Act.put, List.setIfInBounds_toArray, List.set_cons_zero, List.set_cons_succ])
          refine De.Det2.lay (o := ?o13) 12 35 ?xx13 ?yy13 g9 35 #[.int .i64 0, .int .i64 0] #[.int .i64 V1, .int .i64 V2] ?q13 (by kernel_rfl) (by kernel_rfl) ?k13 ?l13 ?x13 ?z13 ?j13 ?i13 ?s13 ?b13 ?h13
          case q13 => (simp only [List.getElem?_toArray, List.getElem?_cons_succ, List.getElem?_cons_zero]; rfl)
          case k13 => rfl
          case l13 => rfl
          case x13 => rfl
          case z13 => rfl
          case j13 => (simp [De.Own.put, *])
          case i13 => kernel_rfl
          case s13 => rfl
          case b13 => (simp [Value.oneCell'])
          (try simp only [Act.put, List.setIfInBounds_toArray, List.set_cons_zero, List.set_cons_succ])
          refine De.Det2.lay (o := ?o14) 13 35 ?xx14 ?yy14 g10 35 #[.int .i64 0, .int .i64 0] #[.int .i64 W1, .int .i64 W2] ?q14 (by kernel_rfl) (by kernel_rfl) ?k14 ?l14 ?x14 ?z14 ?j14 ?i14 ?s14 ?b14 ?h14
          case q14 => (simp only [List.getElem?_toArray, List.getElem?_cons_succ, List.getElem?_cons_zero]; rfl)
          case k14 => rfl
          case l14 => rfl
          case x14 => rfl
          case z14 => rfl
          case j14 => (simp [De.Own.put, *])
          case i14 => kernel_rfl
          case s14 => rfl
          case b14 => (simp [Value.oneCell'])
          (try simp only [Act.put, List.setIfInBounds_toArray, List.set_cons_zero, List.set_cons_succ])
          refine De.Det2.done (by kernel_rfl) ?_
          rintro w9 ⟨hb_w9, hO_w9⟩
          obtain ⟨hge_g9, hB_g9⟩ := hO_w9 g9 true 35 #[.int .i64 V1, .int .i64 V2] (by simp [De.Own.put, *])
          obtain ⟨hge_g10, hB_g10⟩ := hO_w9 g10 true 35 #[.int .i64 W1, .int .i64 W2] (by simp [De.Own.put, *])
          clear hO_w9
          have hG1n := hG1o.drew.callee hb_w9
          have hG2n := hG2o.drew.callee hb_w9
          have hbn : Below w.heap.size w w9 := (hb2.trans (hb.mono hb2.size)).trans (Below.mono (w := wc) (w' := w9) ⟨hb_w9.os, hb_w9.tape, hb_w9.output, hb_w9.size, hb_w9.block⟩ (Nat.le_trans hb2.size hb.size))
          clear hC hG1o hG2o hb_w9 hb hb2 hG12 hG2
          go_wp2_with (fail)
          have hD : Hid (∀ w', Below w9.drew.heap.size w9.drew w' → w'.cell? ⟨g1, 0, none⟩ = some (.int .i64 a) ∧ w'.cell? ⟨g1, 1, none⟩ = some (.int .i64 b) ∧ w'.cell? ⟨g1, 2, none⟩ = some (.int .i64 c) ∧ w'.cell? ⟨g1, 3, none⟩ = some (.int .i64 d) ∧ w'.cell? ⟨g2, 0, none⟩ = some (.int .i64 p) ∧ w'.cell? ⟨g2, 1, none⟩ = some (.int .i64 q) ∧ w'.cell? ⟨g2, 2, none⟩ = some (.int .i64 r) ∧ w'.cell? ⟨g2, 3, none⟩ = some (.int .i64 s) ∧ w'.cell? ⟨g9, 0, none⟩ = some (.int .i64 V1) ∧ w'.cell? ⟨g9, 1, none⟩ = some (.int .i64 V2) ∧ w'.cell? ⟨g10, 0, none⟩ = some (.int .i64 W1) ∧ w'.cell? ⟨g10, 1, none⟩ = some (.int .i64 W2)) := fun w' hw =>
            have k1 := hG1n.drew.callee hw
            have k2 := hG2n.drew.callee hw
            have k3 := hB_g9.drew.callee hw
            have k4 := hB_g10.drew.callee hw
            ⟨k1.cell 0, k1.cell 1, k1.cell 2, k1.cell 3, k2.cell 0, k2.cell 1, k2.cell 2, k2.cell 3, k3.cell 0, k3.cell 1, k4.cell 0, k4.cell 1⟩
          cases hg : (decide (0 < z1) == decide (0 < z2)) with
          | true =>
            have HG := Lib.hid hg
            refine De.region_det (by kernel_rfl) (by kernel_rfl) ?_
            refine De.Det.read (o := ?o15) (v := ?v15) 0 ?q15 (by kernel_rfl) (by kernel_rfl) ?w15 ?y15 ?h15
            case q15 => (simp only [List.getElem?_toArray, List.getElem?_cons_succ, List.getElem?_cons_zero]; rfl)
            case w15 => kernel_rfl
            case y15 => (intro w' hw'; obtain ⟨c1, c2, c3, c4, c5, c6, c7, c8, c9, c10, c11, c12⟩ := hD.out w' hw'; go_simp; (try with_reducible rfl))
            (try simp only [Act.put, List.setIfInBounds_toArray, List.set_cons_zero, List.set_cons_succ])
            refine De.Det.read (o := ?o16) (v := ?v16) 1 ?q16 (by kernel_rfl) (by kernel_rfl) ?w16 ?y16 ?h16
            case q16 => (simp only [List.getElem?_toArray, List.getElem?_cons_succ, List.getElem?_cons_zero]; rfl)
            case w16 => kernel_rfl
            case y16 => (intro w' hw'; obtain ⟨c1, c2, c3, c4, c5, c6, c7, c8, c9, c10, c11, c12⟩ := hD.out w' hw'; go_simp; (try with_reducible rfl))
            (try simp only [Act.put, List.setIfInBounds_toArray, List.set_cons_zero, List.set_cons_succ])
            refine De.Det.read (o := ?o17) (v := ?v17) 2 ?q17 (by kernel_rfl) (by kernel_rfl) ?w17 ?y17 ?h17
            case q17 => (simp only [List.getElem?_toArray, List.getElem?_cons_succ, List.getElem?_cons_zero]; rfl)
            case w17 => kernel_rfl
            case y17 => (intro w' hw'; obtain ⟨c1, c2, c3, c4, c5, c6, c7, c8, c9, c10, c11, c12⟩ := hD.out w' hw'; go_simp; (try with_reducible rfl))
            (try simp only [Act.put, List.setIfInBounds_toArray, List.set_cons_zero, List.set_cons_succ])
            refine De.Det.read (o := ?o18) (v := ?v18) 3 ?q18 (by kernel_rfl) (by kernel_rfl) ?w18 ?y18 ?h18
            case q18 => (simp only [List.getElem?_toArray, List.getElem?_cons_succ, List.getElem?_cons_zero]; rfl)
            case w18 => kernel_rfl
            case y18 => (intro w' hw'; obtain ⟨c1, c2, c3, c4, c5, c6, c7, c8, c9, c10, c11, c12⟩ := hD.out w' hw'; go_simp; (try with_reducible rfl))
            (try simp only [Act.put, List.setIfInBounds_toArray, List.set_cons_zero, List.set_cons_succ])
            refine De.Det.read (o := ?o19) (v := ?v19) 4 ?q19 (by kernel_rfl) (by kernel_rfl) ?w19 ?y19 ?h19
            case q19 => (simp only [List.getElem?_toArray, List.getElem?_cons_succ, List.getElem?_cons_zero]; rfl)
            case w19 => kernel_rfl
            case y19 => (intro w' hw'; obtain ⟨c1, c2, c3, c4, c5, c6, c7, c8, c9, c10, c11, c12⟩ := hD.out w' hw'; go_simp; (try with_reducible rfl))
            (try simp only [Act.put, List.setIfInBounds_toArray, List.set_cons_zero, List.set_cons_succ])
            refine De.Det.call (o := ?o20) (v := ?v20) (f := ?f20) (args := ?g20) 5 ?q20 (by kernel_rfl) (by kernel_rfl) ?w20 ?e20 ?c20 ?h20
            case q20 => (simp only [List.getElem?_toArray, List.getElem?_cons_succ, List.getElem?_cons_zero]; rfl)
            case w20 => kernel_rfl
            case e20 => (intro w'; go_simp; refine ⟨?_, ?_⟩ <;> with_reducible rfl)
            case c20 => (intro w' hw'; exact (l1.out w'))
            (try simp only [Act.put, List.setIfInBounds_toArray, List.set_cons_zero, List.set_cons_succ])
            refine De.Det.call (o := ?o21) (v := ?v21) (f := ?f21) (args := ?g21) 6 ?q21 (by kernel_rfl) (by kernel_rfl) ?w21 ?e21 ?c21 ?h21
            case q21 => (simp only [List.getElem?_toArray, List.getElem?_cons_succ, List.getElem?_cons_zero]; rfl)
            case w21 => kernel_rfl
            case e21 => (intro w'; go_simp; refine ⟨?_, ?_⟩ <;> with_reducible rfl)
            case c21 => (intro w' hw'; exact (m1.out w'))
            (try simp only [Act.put, List.setIfInBounds_toArray, List.set_cons_zero, List.set_cons_succ])
            refine De.Det.read (o := ?o22) (v := ?v22) 7 ?q22 (by kernel_rfl) (by kernel_rfl) ?w22 ?y22 ?h22
            case q22 => (simp only [List.getElem?_toArray, List.getElem?_cons_succ, List.getElem?_cons_zero]; rfl)
            case w22 => kernel_rfl
            case y22 => (intro w' hw'; obtain ⟨c1, c2, c3, c4, c5, c6, c7, c8, c9, c10, c11, c12⟩ := hD.out w' hw'; go_simp; (try with_reducible rfl))
            (try simp only [Act.put, List.setIfInBounds_toArray, List.set_cons_zero, List.set_cons_succ])
            refine De.Det.read (o := ?o23) (v := ?v23) 8 ?q23 (by kernel_rfl) (by kernel_rfl) ?w23 ?y23 ?h23
            case q23 => (simp only [List.getElem?_toArray, List.getElem?_cons_succ, List.getElem?_cons_zero]; rfl)
            case w23 => kernel_rfl
            case y23 => (intro w' hw'; obtain ⟨c1, c2, c3, c4, c5, c6, c7, c8, c9, c10, c11, c12⟩ := hD.out w' hw'; go_simp; (try with_reducible rfl))
            (try simp only [Act.put, List.setIfInBounds_toArray, List.set_cons_zero, List.set_cons_succ])
            refine De.Det.read (o := ?o24) (v := ?v24) 9 ?q24 (by kernel_rfl) (by kernel_rfl) ?w24 ?y24 ?h24
            case q24 => (simp only [List.getElem?_toArray, List.getElem?_cons_succ, List.getElem?_cons_zero]; rfl)
            case w24 => kernel_rfl
            case y24 => (intro w' hw'; obtain ⟨c1, c2, c3, c4, c5, c6, c7, c8, c9, c10, c11, c12⟩ := hD.out w' hw'; go_simp; (try with_reducible rfl))
            (try simp only [Act.put, List.setIfInBounds_toArray, List.set_cons_zero, List.set_cons_succ])
            refine De.Det.read (o := ?o25) (v := ?v25) 10 ?q25 (by kernel_rfl) (by kernel_rfl) ?w25 ?y25 ?h25
            case q25 => (simp only [List.getElem?_toArray, List.getElem?_cons_succ, List.getElem?_cons_zero]; rfl)
            case w25 => kernel_rfl
            case y25 => (intro w' hw'; obtain ⟨c1, c2, c3, c4, c5, c6, c7, c8, c9, c10, c11, c12⟩ := hD.out w' hw'; go_simp; (try with_reducible rfl))
            (try simp only [Act.put, List.setIfInBounds_toArray, List.set_cons_zero, List.set_cons_succ])
            refine De.Det.read (o := ?o26) (v := ?v26) 11 ?q26 (by kernel_rfl) (by kernel_rfl) ?w26 ?y26 ?h26
            case q26 => (simp only [List.getElem?_toArray, List.getElem?_cons_succ, List.getElem?_cons_zero]; rfl)
            case w26 => kernel_rfl
            case y26 => (intro w' hw'; obtain ⟨c1, c2, c3, c4, c5, c6, c7, c8, c9, c10, c11, c12⟩ := hD.out w' hw'; go_simp; (try with_reducible rfl))
            (try simp only [Act.put, List.setIfInBounds_toArray, List.set_cons_zero, List.set_cons_succ])
            refine De.Det.read (o := ?o27) (v := ?v27) 12 ?q27 (by kernel_rfl) (by kernel_rfl) ?w27 ?y27 ?h27
            case q27 => (simp only [List.getElem?_toArray, List.getElem?_cons_succ, List.getElem?_cons_zero]; rfl)
            case w27 => kernel_rfl
            case y27 => (intro w' hw'; obtain ⟨c1, c2, c3, c4, c5, c6, c7, c8, c9, c10, c11, c12⟩ := hD.out w' hw'; go_simp; (try with_reducible rfl))
            (try simp only [Act.put, List.setIfInBounds_toArray, List.set_cons_zero, List.set_cons_succ])
            refine De.Det.call (o := ?o28) (v := ?v28) (f := ?f28) (args := ?g28) 13 ?q28 (by kernel_rfl) (by kernel_rfl) ?w28 ?e28 ?c28 ?h28
            case q28 => (simp only [List.getElem?_toArray, List.getElem?_cons_succ, List.getElem?_cons_zero]; rfl)
            case w28 => kernel_rfl
            case e28 => (intro w'; go_simp; refine ⟨?_, ?_⟩ <;> with_reducible rfl)
            case c28 => (intro w' hw'; exact (l2.out w'))
            (try simp only [Act.put, List.setIfInBounds_toArray, List.set_cons_zero, List.set_cons_succ])
            refine De.Det.call (o := ?o29) (v := ?v29) (f := ?f29) (args := ?g29) 14 ?q29 (by kernel_rfl) (by kernel_rfl) ?w29 ?e29 ?c29 ?h29
            case q29 => (simp only [List.getElem?_toArray, List.getElem?_cons_succ, List.getElem?_cons_zero]; rfl)
            case w29 => kernel_rfl
            case e29 => (intro w'; go_simp; refine ⟨?_, ?_⟩ <;> with_reducible rfl)
            case c29 => (intro w' hw'; exact (m2.out w'))
            (try simp only [Act.put, List.setIfInBounds_toArray, List.set_cons_zero, List.set_cons_succ])
            refine De.Det.read (o := ?o30) (v := ?v30) 15 ?q30 (by kernel_rfl) (by kernel_rfl) ?w30 ?y30 ?h30
            case q30 => (simp only [List.getElem?_toArray, List.getElem?_cons_succ, List.getElem?_cons_zero]; rfl)
            case w30 => kernel_rfl
            case y30 => (intro w' hw'; obtain ⟨c1, c2, c3, c4, c5, c6, c7, c8, c9, c10, c11, c12⟩ := hD.out w' hw'; go_simp; (try with_reducible rfl))
            (try simp only [Act.put, List.setIfInBounds_toArray, List.set_cons_zero, List.set_cons_succ])
            refine De.Det.read (o := ?o31) (v := ?v31) 16 ?q31 (by kernel_rfl) (by kernel_rfl) ?w31 ?y31 ?h31
            case q31 => (simp only [List.getElem?_toArray, List.getElem?_cons_succ, List.getElem?_cons_zero]; rfl)
            case w31 => kernel_rfl
            case y31 => (intro w' hw'; obtain ⟨c1, c2, c3, c4, c5, c6, c7, c8, c9, c10, c11, c12⟩ := hD.out w' hw'; go_simp; (try with_reducible rfl))
            (try simp only [Act.put, List.setIfInBounds_toArray, List.set_cons_zero, List.set_cons_succ])
            refine De.Det.read (o := ?o32) (v := ?v32) 17 ?q32 (by kernel_rfl) (by kernel_rfl) ?w32 ?y32 ?h32
            case q32 => (simp only [List.getElem?_toArray, List.getElem?_cons_succ, List.getElem?_cons_zero]; rfl)
            case w32 => kernel_rfl
            case y32 => (intro w' hw'; obtain ⟨c1, c2, c3, c4, c5, c6, c7, c8, c9, c10, c11, c12⟩ := hD.out w' hw'; go_simp; (try with_reducible rfl))
            (try simp only [Act.put, List.setIfInBounds_toArray, List.set_cons_zero, List.set_cons_succ])
            refine De.Det.skip (o := ?o33) 18 ?q33 (by kernel_rfl) (by kernel_rfl) ?w33 ?h33
            case q33 => (simp only [List.getElem?_toArray, List.getElem?_cons_succ, List.getElem?_cons_zero]; rfl)
            case w33 => kernel_rfl
            (try simp only [Act.put, List.setIfInBounds_toArray, List.set_cons_zero, List.set_cons_succ])
            refine De.Det.skip (o := ?o34) 19 ?q34 (by kernel_rfl) (by kernel_rfl) ?w34 ?h34
            case q34 => (simp only [List.getElem?_toArray, List.getElem?_cons_succ, List.getElem?_cons_zero]; rfl)
            case w34 => kernel_rfl
            (try simp only [Act.put, List.setIfInBounds_toArray, List.set_cons_zero, List.set_cons_succ])
            refine De.Det.skip (o := ?o35) 20 ?q35 (by kernel_rfl) (by kernel_rfl) ?w35 ?h35
            case q35 => (simp only [List.getElem?_toArray, List.getElem?_cons_succ, List.getElem?_cons_zero]; rfl)
            case w35 => kernel_rfl
            (try simp only [Act.put, List.setIfInBounds_toArray, List.set_cons_zero, List.set_cons_succ])
            refine De.Det.skip (o := ?o36) 21 ?q36 (by kernel_rfl) (by kernel_rfl) ?w36 ?h36
            case q36 => (simp only [List.getElem?_toArray, List.getElem?_cons_succ, List.getElem?_cons_zero]; rfl)
            case w36 => kernel_rfl
            (try simp only [Act.put, List.setIfInBounds_toArray, List.set_cons_zero, List.set_cons_succ])
            refine De.Det.skip (o := ?o37) 22 ?q37 (by kernel_rfl) (by kernel_rfl) ?w37 ?h37
            case q37 => (simp only [List.getElem?_toArray, List.getElem?_cons_succ, List.getElem?_cons_zero]; rfl)
            case w37 => kernel_rfl
            (try simp only [Act.put, List.setIfInBounds_toArray, List.set_cons_zero, List.set_cons_succ])
            refine De.Det.skip (o := ?o38) 23 ?q38 (by kernel_rfl) (by kernel_rfl) ?w38 ?h38
            case q38 => (simp only [List.getElem?_toArray, List.getElem?_cons_succ, List.getElem?_cons_zero]; rfl)
            case w38 => kernel_rfl
            (try simp only [Act.put, List.setIfInBounds_toArray, List.set_cons_zero, List.set_cons_succ])
            refine De.Det.skip (o := ?o39) 24 ?q39 (by kernel_rfl) (by kernel_rfl) ?w39 ?h39
            case q39 => (simp only [List.getElem?_toArray, List.getElem?_cons_succ, List.getElem?_cons_zero]; rfl)
            case w39 => kernel_rfl
            (try simp only [Act.put, List.setIfInBounds_toArray, List.set_cons_zero, List.set_cons_succ])
            refine De.Det.skip (o := ?o40) 25 ?q40 (by kernel_rfl) (by kernel_rfl) ?w40 ?h40
            case q40 => (simp only [List.getElem?_toArray, List.getElem?_cons_succ, List.getElem?_cons_zero]; rfl)
            case w40 => kernel_rfl
            (try simp only [Act.put, List.setIfInBounds_toArray, List.set_cons_zero, List.set_cons_succ])
            refine De.Det.skip (o := ?o41) 26 ?q41 (by kernel_rfl) (by kernel_rfl) ?w41 ?h41
            case q41 => (simp only [List.getElem?_toArray, List.getElem?_cons_succ, List.getElem?_cons_zero]; rfl)
            case w41 => kernel_rfl
            (try simp only [Act.put, List.setIfInBounds_toArray, List.set_cons_zero, List.set_cons_succ])
            refine De.Det.skip (o := ?o42) 27 ?q42 (by kernel_rfl) (by kernel_rfl) ?w42 ?h42
            case q42 => (simp only [List.getElem?_toArray, List.getElem?_cons_succ, List.getElem?_cons_zero]; rfl)
            case w42 => kernel_rfl
            (try simp only [Act.put, List.setIfInBounds_toArray, List.set_cons_zero, List.set_cons_succ])
            refine De.Det.skip (o := ?o43) 28 ?q43 (by kernel_rfl) (by kernel_rfl) ?w43 ?h43
            case q43 => (simp only [List.getElem?_toArray, List.getElem?_cons_succ, List.getElem?_cons_zero]; rfl)
            case w43 => kernel_rfl
            (try simp only [Act.put, List.setIfInBounds_toArray, List.set_cons_zero, List.set_cons_succ])
            refine De.Det.skip (o := ?o44) 29 ?q44 (by kernel_rfl) (by kernel_rfl) ?w44 ?h44
            case q44 => (simp only [List.getElem?_toArray, List.getElem?_cons_succ, List.getElem?_cons_zero]; rfl)
            case w44 => kernel_rfl
            (try simp only [Act.put, List.setIfInBounds_toArray, List.set_cons_zero, List.set_cons_succ])
            refine De.Det.skip (o := ?o45) 30 ?q45 (by kernel_rfl) (by kernel_rfl) ?w45 ?h45
            case q45 => (simp only [List.getElem?_toArray, List.getElem?_cons_succ, List.getElem?_cons_zero]; rfl)
            case w45 => kernel_rfl
            (try simp only [Act.put, List.setIfInBounds_toArray, List.set_cons_zero, List.set_cons_succ])
            refine De.Det.skip (o := ?o46) 31 ?q46 (by kernel_rfl) (by kernel_rfl) ?w46 ?h46
            case q46 => (simp only [List.getElem?_toArray, List.getElem?_cons_succ, List.getElem?_cons_zero]; rfl)
            case w46 => kernel_rfl
            (try simp only [Act.put, List.setIfInBounds_toArray, List.set_cons_zero, List.set_cons_succ])
            refine De.Det.skip (o := ?o47) 32 ?q47 (by kernel_rfl) (by kernel_rfl) ?w47 ?h47
            case q47 => (simp only [List.getElem?_toArray, List.getElem?_cons_succ, List.getElem?_cons_zero]; rfl)
            case w47 => kernel_rfl
            (try simp only [Act.put, List.setIfInBounds_toArray, List.set_cons_zero, List.set_cons_succ])
            refine De.Det.skip (o := ?o48) 33 ?q48 (by kernel_rfl) (by kernel_rfl) ?w48 ?h48
            case q48 => (simp only [List.getElem?_toArray, List.getElem?_cons_succ, List.getElem?_cons_zero]; rfl)
            case w48 => kernel_rfl
            (try simp only [Act.put, List.setIfInBounds_toArray, List.set_cons_zero, List.set_cons_succ])
            refine De.Det.skip (o := ?o49) 34 ?q49 (by kernel_rfl) (by kernel_rfl) ?w49 ?h49
            case q49 => (simp only [List.getElem?_toArray, List.getElem?_cons_succ, List.getElem?_cons_zero]; rfl)
            case w49 => kernel_rfl
            (try simp only [Act.put, List.setIfInBounds_toArray, List.set_cons_zero, List.set_cons_succ])
            refine De.Det.read (o := ?o50) (v := ?v50) 35 ?q50 (by kernel_rfl) (by kernel_rfl) ?w50 ?y50 ?h50
            case q50 => (simp only [List.getElem?_toArray, List.getElem?_cons_succ, List.getElem?_cons_zero]; rfl)
            case w50 => kernel_rfl
            case y50 => (intro w' hw'; obtain ⟨c1, c2, c3, c4, c5, c6, c7, c8, c9, c10, c11, c12⟩ := hD.out w' hw'; go_simp; (try with_reducible rfl))
            (try simp only [Act.put, List.setIfInBounds_toArray, List.set_cons_zero, List.set_cons_succ])
            refine De.Det.base ?_
            refine De.Det2.done (by kernel_rfl) ?_
            rintro w10 ⟨hb_w10, hO_w10⟩
            clear hO_w10
            have hbz : Below w.heap.size w w10 := hbn.trans (Below.mono (w := w9) (w' := w10) ⟨hb_w10.os, hb_w10.tape, hb_w10.output, hb_w10.size, hb_w10.block⟩ hbn.size)
            go_wp2_with (fail)
            go_ret
            exact ⟨ret_met (M' := .none) (by rw [← hM.out, hx0.out, hx1.out, hp0.out, hp1.out]; simp [bne, HG.out]) rfl, hbz⟩
          | false =>
            have HG := Lib.hid hg
            cases hg2 : (decide (0 < z3) == decide (0 < z4)) with
            | true =>
              have HG2 := Lib.hid hg2
              refine De.region_det (by kernel_rfl) (by kernel_rfl) ?_
              refine De.Det.read (o := ?o51) (v := ?v51) 0 ?q51 (by kernel_rfl) (by kernel_rfl) ?w51 ?y51 ?h51
              case q51 => (simp only [List.getElem?_toArray, List.getElem?_cons_succ, List.getElem?_cons_zero]; rfl)
              case w51 => kernel_rfl
              case y51 => (intro w' hw'; obtain ⟨c1, c2, c3, c4, c5, c6, c7, c8, c9, c10, c11, c12⟩ := hD.out w' hw'; go_simp; (try with_reducible rfl))
              (try simp only [Act.put, List.setIfInBounds_toArray, List.set_cons_zero, List.set_cons_succ])
              refine De.Det.read (o := ?o52) (v := ?v52) 1 ?q52 (by kernel_rfl) (by kernel_rfl) ?w52 ?y52 ?h52
              case q52 => (simp only [List.getElem?_toArray, List.getElem?_cons_succ, List.getElem?_cons_zero]; rfl)
              case w52 => kernel_rfl
              case y52 => (intro w' hw'; obtain ⟨c1, c2, c3, c4, c5, c6, c7, c8, c9, c10, c11, c12⟩ := hD.out w' hw'; go_simp; (try with_reducible rfl))
              (try simp only [Act.put, List.setIfInBounds_toArray, List.set_cons_zero, List.set_cons_succ])
              refine De.Det.read (o := ?o53) (v := ?v53) 2 ?q53 (by kernel_rfl) (by kernel_rfl) ?w53 ?y53 ?h53
              case q53 => (simp only [List.getElem?_toArray, List.getElem?_cons_succ, List.getElem?_cons_zero]; rfl)
              case w53 => kernel_rfl
              case y53 => (intro w' hw'; obtain ⟨c1, c2, c3, c4, c5, c6, c7, c8, c9, c10, c11, c12⟩ := hD.out w' hw'; go_simp; (try with_reducible rfl))
              (try simp only [Act.put, List.setIfInBounds_toArray, List.set_cons_zero, List.set_cons_succ])
              refine De.Det.read (o := ?o54) (v := ?v54) 3 ?q54 (by kernel_rfl) (by kernel_rfl) ?w54 ?y54 ?h54
              case q54 => (simp only [List.getElem?_toArray, List.getElem?_cons_succ, List.getElem?_cons_zero]; rfl)
              case w54 => kernel_rfl
              case y54 => (intro w' hw'; obtain ⟨c1, c2, c3, c4, c5, c6, c7, c8, c9, c10, c11, c12⟩ := hD.out w' hw'; go_simp; (try with_reducible rfl))
              (try simp only [Act.put, List.setIfInBounds_toArray, List.set_cons_zero, List.set_cons_succ])
              refine De.Det.read (o := ?o55) (v := ?v55) 4 ?q55 (by kernel_rfl) (by kernel_rfl) ?w55 ?y55 ?h55
              case q55 => (simp only [List.getElem?_toArray, List.getElem?_cons_succ, List.getElem?_cons_zero]; rfl)
              case w55 => kernel_rfl
              case y55 => (intro w' hw'; obtain ⟨c1, c2, c3, c4, c5, c6, c7, c8, c9, c10, c11, c12⟩ := hD.out w' hw'; go_simp; (try with_reducible rfl))
              (try simp only [Act.put, List.setIfInBounds_toArray, List.set_cons_zero, List.set_cons_succ])
              refine De.Det.call (o := ?o56) (v := ?v56) (f := ?f56) (args := ?g56) 5 ?q56 (by kernel_rfl) (by kernel_rfl) ?w56 ?e56 ?c56 ?h56
              case q56 => (simp only [List.getElem?_toArray, List.getElem?_cons_succ, List.getElem?_cons_zero]; rfl)
              case w56 => kernel_rfl
              case e56 => (intro w'; go_simp; refine ⟨?_, ?_⟩ <;> with_reducible rfl)
              case c56 => (intro w' hw'; exact (l1.out w'))
              (try simp only [Act.put, List.setIfInBounds_toArray, List.set_cons_zero, List.set_cons_succ])
              refine De.Det.call (o := ?o57) (v := ?v57) (f := ?f57) (args := ?g57) 6 ?q57 (by kernel_rfl) (by kernel_rfl) ?w57 ?e57 ?c57 ?h57
              case q57 => (simp only [List.getElem?_toArray, List.getElem?_cons_succ, List.getElem?_cons_zero]; rfl)
              case w57 => kernel_rfl
              case e57 => (intro w'; go_simp; refine ⟨?_, ?_⟩ <;> with_reducible rfl)
              case c57 => (intro w' hw'; exact (m1.out w'))
              (try simp only [Act.put, List.setIfInBounds_toArray, List.set_cons_zero, List.set_cons_succ])
              refine De.Det.read (o := ?o58) (v := ?v58) 7 ?q58 (by kernel_rfl) (by kernel_rfl) ?w58 ?y58 ?h58
              case q58 => (simp only [List.getElem?_toArray, List.getElem?_cons_succ, List.getElem?_cons_zero]; rfl)
              case w58 => kernel_rfl
              case y58 => (intro w' hw'; obtain ⟨c1, c2, c3, c4, c5, c6, c7, c8, c9, c10, c11, c12⟩ := hD.out w' hw'; go_simp; (try with_reducible rfl))
              (try simp only [Act.put, List.setIfInBounds_toArray, List.set_cons_zero, List.set_cons_succ])
              refine De.Det.read (o := ?o59) (v := ?v59) 8 ?q59 (by kernel_rfl) (by kernel_rfl) ?w59 ?y59 ?h59
              case q59 => (simp only [List.getElem?_toArray, List.getElem?_cons_succ, List.getElem?_cons_zero]; rfl)
              case w59 => kernel_rfl
              case y59 => (intro w' hw'; obtain ⟨c1, c2, c3, c4, c5, c6, c7, c8, c9, c10, c11, c12⟩ := hD.out w' hw'; go_simp; (try with_reducible rfl))
              (try simp only [Act.put, List.setIfInBounds_toArray, List.set_cons_zero, List.set_cons_succ])
              refine De.Det.read (o := ?o60) (v := ?v60) 9 ?q60 (by kernel_rfl) (by kernel_rfl) ?w60 ?y60 ?h60
              case q60 => (simp only [List.getElem?_toArray, List.getElem?_cons_succ, List.getElem?_cons_zero]; rfl)
              case w60 => kernel_rfl
              case y60 => (intro w' hw'; obtain ⟨c1, c2, c3, c4, c5, c6, c7, c8, c9, c10, c11, c12⟩ := hD.out w' hw'; go_simp; (try with_reducible rfl))
              (try simp only [Act.put, List.setIfInBounds_toArray, List.set_cons_zero, List.set_cons_succ])
              refine De.Det.read (o := ?o61) (v := ?v61) 10 ?q61 (by kernel_rfl) (by kernel_rfl) ?w61 ?y61 ?h61
              case q61 => (simp only [List.getElem?_toArray, List.getElem?_cons_succ, List.getElem?_cons_zero]; rfl)
              case w61 => kernel_rfl
              case y61 => (intro w' hw'; obtain ⟨c1, c2, c3, c4, c5, c6, c7, c8, c9, c10, c11, c12⟩ := hD.out w' hw'; go_simp; (try with_reducible rfl))
              (try simp only [Act.put, List.setIfInBounds_toArray, List.set_cons_zero, List.set_cons_succ])
              refine De.Det.read (o := ?o62) (v := ?v62) 11 ?q62 (by kernel_rfl) (by kernel_rfl) ?w62 ?y62 ?h62
              case q62 => (simp only [List.getElem?_toArray, List.getElem?_cons_succ, List.getElem?_cons_zero]; rfl)
              case w62 => kernel_rfl
              case y62 => (intro w' hw'; obtain ⟨c1, c2, c3, c4, c5, c6, c7, c8, c9, c10, c11, c12⟩ := hD.out w' hw'; go_simp; (try with_reducible rfl))
              (try simp only [Act.put, List.setIfInBounds_toArray, List.set_cons_zero, List.set_cons_succ])
              refine De.Det.read (o := ?o63) (v := ?v63) 12 ?q63 (by kernel_rfl) (by kernel_rfl) ?w63 ?y63 ?h63
              case q63 => (simp only [List.getElem?_toArray, List.getElem?_cons_succ, List.getElem?_cons_zero]; rfl)
              case w63 => kernel_rfl
              case y63 => (intro w' hw'; obtain ⟨c1, c2, c3, c4, c5, c6, c7, c8, c9, c10, c11, c12⟩ := hD.out w' hw'; go_simp; (try with_reducible rfl))
              (try simp only [Act.put, List.setIfInBounds_toArray, List.set_cons_zero, List.set_cons_succ])
              refine De.Det.call (o := ?o64) (v := ?v64) (f := ?f64) (args := ?g64) 13 ?q64 (by kernel_rfl) (by kernel_rfl) ?w64 ?e64 ?c64 ?h64
              case q64 => (simp only [List.getElem?_toArray, List.getElem?_cons_succ, List.getElem?_cons_zero]; rfl)
              case w64 => kernel_rfl
              case e64 => (intro w'; go_simp; refine ⟨?_, ?_⟩ <;> with_reducible rfl)
              case c64 => (intro w' hw'; exact (l2.out w'))
              (try simp only [Act.put, List.setIfInBounds_toArray, List.set_cons_zero, List.set_cons_succ])
              refine De.Det.call (o := ?o65) (v := ?v65) (f := ?f65) (args := ?g65) 14 ?q65 (by kernel_rfl) (by kernel_rfl) ?w65 ?e65 ?c65 ?h65
              case q65 => (simp only [List.getElem?_toArray, List.getElem?_cons_succ, List.getElem?_cons_zero]; rfl)
              case w65 => kernel_rfl
              case e65 => (intro w'; go_simp; refine ⟨?_, ?_⟩ <;> with_reducible rfl)
              case c65 => (intro w' hw'; exact (m2.out w'))
              (try simp only [Act.put, List.setIfInBounds_toArray, List.set_cons_zero, List.set_cons_succ])
              refine De.Det.read (o := ?o66) (v := ?v66) 15 ?q66 (by kernel_rfl) (by kernel_rfl) ?w66 ?y66 ?h66
              case q66 => (simp only [List.getElem?_toArray, List.getElem?_cons_succ, List.getElem?_cons_zero]; rfl)
              case w66 => kernel_rfl
              case y66 => (intro w' hw'; obtain ⟨c1, c2, c3, c4, c5, c6, c7, c8, c9, c10, c11, c12⟩ := hD.out w' hw'; go_simp; (try with_reducible rfl))
              (try simp only [Act.put, List.setIfInBounds_toArray, List.set_cons_zero, List.set_cons_succ])
              refine De.Det.read (o := ?o67) (v := ?v67) 16 ?q67 (by kernel_rfl) (by kernel_rfl) ?w67 ?y67 ?h67
              case q67 => (simp only [List.getElem?_toArray, List.getElem?_cons_succ, List.getElem?_cons_zero]; rfl)
              case w67 => kernel_rfl
              case y67 => (intro w' hw'; obtain ⟨c1, c2, c3, c4, c5, c6, c7, c8, c9, c10, c11, c12⟩ := hD.out w' hw'; go_simp; (try with_reducible rfl))
              (try simp only [Act.put, List.setIfInBounds_toArray, List.set_cons_zero, List.set_cons_succ])
              refine De.Det.read (o := ?o68) (v := ?v68) 17 ?q68 (by kernel_rfl) (by kernel_rfl) ?w68 ?y68 ?h68
              case q68 => (simp only [List.getElem?_toArray, List.getElem?_cons_succ, List.getElem?_cons_zero]; rfl)
              case w68 => kernel_rfl
              case y68 => (intro w' hw'; obtain ⟨c1, c2, c3, c4, c5, c6, c7, c8, c9, c10, c11, c12⟩ := hD.out w' hw'; go_simp; (try with_reducible rfl))
              (try simp only [Act.put, List.setIfInBounds_toArray, List.set_cons_zero, List.set_cons_succ])
              refine De.Det.read (o := ?o69) (v := ?v69) 18 ?q69 (by kernel_rfl) (by kernel_rfl) ?w69 ?y69 ?h69
              case q69 => (simp only [List.getElem?_toArray, List.getElem?_cons_succ, List.getElem?_cons_zero]; rfl)
              case w69 => kernel_rfl
              case y69 => (intro w' hw'; obtain ⟨c1, c2, c3, c4, c5, c6, c7, c8, c9, c10, c11, c12⟩ := hD.out w' hw'; go_simp; (try with_reducible rfl))
              (try simp only [Act.put, List.setIfInBounds_toArray, List.set_cons_zero, List.set_cons_succ])
              refine De.Det.read (o := ?o70) (v := ?v70) 19 ?q70 (by kernel_rfl) (by kernel_rfl) ?w70 ?y70 ?h70
              case q70 => (simp only [List.getElem?_toArray, List.getElem?_cons_succ, List.getElem?_cons_zero]; rfl)
              case w70 => kernel_rfl
              case y70 => (intro w' hw'; obtain ⟨c1, c2, c3, c4, c5, c6, c7, c8, c9, c10, c11, c12⟩ := hD.out w' hw'; go_simp; (try with_reducible rfl))
              (try simp only [Act.put, List.setIfInBounds_toArray, List.set_cons_zero, List.set_cons_succ])
              refine De.Det.read (o := ?o71) (v := ?v71) 20 ?q71 (by kernel_rfl) (by kernel_rfl) ?w71 ?y71 ?h71
              case q71 => (simp only [List.getElem?_toArray, List.getElem?_cons_succ, List.getElem?_cons_zero]; rfl)
              case w71 => kernel_rfl
              case y71 => (intro w' hw'; obtain ⟨c1, c2, c3, c4, c5, c6, c7, c8, c9, c10, c11, c12⟩ := hD.out w' hw'; go_simp; (try with_reducible rfl))
              (try simp only [Act.put, List.setIfInBounds_toArray, List.set_cons_zero, List.set_cons_succ])
              refine De.Det.read (o := ?o72) (v := ?v72) 21 ?q72 (by kernel_rfl) (by kernel_rfl) ?w72 ?y72 ?h72
              case q72 => (simp only [List.getElem?_toArray, List.getElem?_cons_succ, List.getElem?_cons_zero]; rfl)
              case w72 => kernel_rfl
              case y72 => (intro w' hw'; obtain ⟨c1, c2, c3, c4, c5, c6, c7, c8, c9, c10, c11, c12⟩ := hD.out w' hw'; go_simp; (try with_reducible rfl))
              (try simp only [Act.put, List.setIfInBounds_toArray, List.set_cons_zero, List.set_cons_succ])
              refine De.Det.read (o := ?o73) (v := ?v73) 22 ?q73 (by kernel_rfl) (by kernel_rfl) ?w73 ?y73 ?h73
              case q73 => (simp only [List.getElem?_toArray, List.getElem?_cons_succ, List.getElem?_cons_zero]; rfl)
              case w73 => kernel_rfl
              case y73 => (intro w' hw'; obtain ⟨c1, c2, c3, c4, c5, c6, c7, c8, c9, c10, c11, c12⟩ := hD.out w' hw'; go_simp; (try with_reducible rfl))
              (try simp only [Act.put, List.setIfInBounds_toArray, List.set_cons_zero, List.set_cons_succ])
              refine De.Det.call (o := ?o74) (v := ?v74) (f := ?f74) (args := ?g74) 23 ?q74 (by kernel_rfl) (by kernel_rfl) ?w74 ?e74 ?c74 ?h74
              case q74 => (simp only [List.getElem?_toArray, List.getElem?_cons_succ, List.getElem?_cons_zero]; rfl)
              case w74 => kernel_rfl
              case e74 => (intro w'; go_simp; refine ⟨?_, ?_⟩ <;> with_reducible rfl)
              case c74 => (intro w' hw'; exact (l3.out w'))
              (try simp only [Act.put, List.setIfInBounds_toArray, List.set_cons_zero, List.set_cons_succ])
              refine De.Det.call (o := ?o75) (v := ?v75) (f := ?f75) (args := ?g75) 24 ?q75 (by kernel_rfl) (by kernel_rfl) ?w75 ?e75 ?c75 ?h75
              case q75 => (simp only [List.getElem?_toArray, List.getElem?_cons_succ, List.getElem?_cons_zero]; rfl)
              case w75 => kernel_rfl
              case e75 => (intro w'; go_simp; refine ⟨?_, ?_⟩ <;> with_reducible rfl)
              case c75 => (intro w' hw'; exact (m3.out w'))
              (try simp only [Act.put, List.setIfInBounds_toArray, List.set_cons_zero, List.set_cons_succ])
              refine De.Det.read (o := ?o76) (v := ?v76) 25 ?q76 (by kernel_rfl) (by kernel_rfl) ?w76 ?y76 ?h76
              case q76 => (simp only [List.getElem?_toArray, List.getElem?_cons_succ, List.getElem?_cons_zero]; rfl)
              case w76 => kernel_rfl
              case y76 => (intro w' hw'; obtain ⟨c1, c2, c3, c4, c5, c6, c7, c8, c9, c10, c11, c12⟩ := hD.out w' hw'; go_simp; (try with_reducible rfl))
              (try simp only [Act.put, List.setIfInBounds_toArray, List.set_cons_zero, List.set_cons_succ])
              refine De.Det.read (o := ?o77) (v := ?v77) 26 ?q77 (by kernel_rfl) (by kernel_rfl) ?w77 ?y77 ?h77
              case q77 => (simp only [List.getElem?_toArray, List.getElem?_cons_succ, List.getElem?_cons_zero]; rfl)
              case w77 => kernel_rfl
              case y77 => (intro w' hw'; obtain ⟨c1, c2, c3, c4, c5, c6, c7, c8, c9, c10, c11, c12⟩ := hD.out w' hw'; go_simp; (try with_reducible rfl))
              (try simp only [Act.put, List.setIfInBounds_toArray, List.set_cons_zero, List.set_cons_succ])
              refine De.Det.read (o := ?o78) (v := ?v78) 27 ?q78 (by kernel_rfl) (by kernel_rfl) ?w78 ?y78 ?h78
              case q78 => (simp only [List.getElem?_toArray, List.getElem?_cons_succ, List.getElem?_cons_zero]; rfl)
              case w78 => kernel_rfl
              case y78 => (intro w' hw'; obtain ⟨c1, c2, c3, c4, c5, c6, c7, c8, c9, c10, c11, c12⟩ := hD.out w' hw'; go_simp; (try with_reducible rfl))
              (try simp only [Act.put, List.setIfInBounds_toArray, List.set_cons_zero, List.set_cons_succ])
              refine De.Det.read (o := ?o79) (v := ?v79) 28 ?q79 (by kernel_rfl) (by kernel_rfl) ?w79 ?y79 ?h79
              case q79 => (simp only [List.getElem?_toArray, List.getElem?_cons_succ, List.getElem?_cons_zero]; rfl)
              case w79 => kernel_rfl
              case y79 => (intro w' hw'; obtain ⟨c1, c2, c3, c4, c5, c6, c7, c8, c9, c10, c11, c12⟩ := hD.out w' hw'; go_simp; (try with_reducible rfl))
              (try simp only [Act.put, List.setIfInBounds_toArray, List.set_cons_zero, List.set_cons_succ])
              refine De.Det.read (o := ?o80) (v := ?v80) 29 ?q80 (by kernel_rfl) (by kernel_rfl) ?w80 ?y80 ?h80
              case q80 => (simp only [List.getElem?_toArray, List.getElem?_cons_succ, List.getElem?_cons_zero]; rfl)
              case w80 => kernel_rfl
              case y80 => (intro w' hw'; obtain ⟨c1, c2, c3, c4, c5, c6, c7, c8, c9, c10, c11, c12⟩ := hD.out w' hw'; go_simp; (try with_reducible rfl))
              (try simp only [Act.put, List.setIfInBounds_toArray, List.set_cons_zero, List.set_cons_succ])
              refine De.Det.read (o := ?o81) (v := ?v81) 30 ?q81 (by kernel_rfl) (by kernel_rfl) ?w81 ?y81 ?h81
              case q81 => (simp only [List.getElem?_toArray, List.getElem?_cons_succ, List.getElem?_cons_zero]; rfl)
              case w81 => kernel_rfl
              case y81 => (intro w' hw'; obtain ⟨c1, c2, c3, c4, c5, c6, c7, c8, c9, c10, c11, c12⟩ := hD.out w' hw'; go_simp; (try with_reducible rfl))
              (try simp only [Act.put, List.setIfInBounds_toArray, List.set_cons_zero, List.set_cons_succ])
              refine De.Det.call (o := ?o82) (v := ?v82) (f := ?f82) (args := ?g82) 31 ?q82 (by kernel_rfl) (by kernel_rfl) ?w82 ?e82 ?c82 ?h82
              case q82 => (simp only [List.getElem?_toArray, List.getElem?_cons_succ, List.getElem?_cons_zero]; rfl)
              case w82 => kernel_rfl
              case e82 => (intro w'; go_simp; refine ⟨?_, ?_⟩ <;> with_reducible rfl)
              case c82 => (intro w' hw'; exact (l4.out w'))
              (try simp only [Act.put, List.setIfInBounds_toArray, List.set_cons_zero, List.set_cons_succ])
              refine De.Det.call (o := ?o83) (v := ?v83) (f := ?f83) (args := ?g83) 32 ?q83 (by kernel_rfl) (by kernel_rfl) ?w83 ?e83 ?c83 ?h83
              case q83 => (simp only [List.getElem?_toArray, List.getElem?_cons_succ, List.getElem?_cons_zero]; rfl)
              case w83 => kernel_rfl
              case e83 => (intro w'; go_simp; refine ⟨?_, ?_⟩ <;> with_reducible rfl)
              case c83 => (intro w' hw'; exact (m4.out w'))
              (try simp only [Act.put, List.setIfInBounds_toArray, List.set_cons_zero, List.set_cons_succ])
              refine De.Det.read (o := ?o84) (v := ?v84) 33 ?q84 (by kernel_rfl) (by kernel_rfl) ?w84 ?y84 ?h84
              case q84 => (simp only [List.getElem?_toArray, List.getElem?_cons_succ, List.getElem?_cons_zero]; rfl)
              case w84 => kernel_rfl
              case y84 => (intro w' hw'; obtain ⟨c1, c2, c3, c4, c5, c6, c7, c8, c9, c10, c11, c12⟩ := hD.out w' hw'; go_simp; (try with_reducible rfl))
              (try simp only [Act.put, List.setIfInBounds_toArray, List.set_cons_zero, List.set_cons_succ])
              refine De.Det.read (o := ?o85) (v := ?v85) 34 ?q85 (by kernel_rfl) (by kernel_rfl) ?w85 ?y85 ?h85
              case q85 => (simp only [List.getElem?_toArray, List.getElem?_cons_succ, List.getElem?_cons_zero]; rfl)
              case w85 => kernel_rfl
              case y85 => (intro w' hw'; obtain ⟨c1, c2, c3, c4, c5, c6, c7, c8, c9, c10, c11, c12⟩ := hD.out w' hw'; go_simp; (try with_reducible rfl))
              (try simp only [Act.put, List.setIfInBounds_toArray, List.set_cons_zero, List.set_cons_succ])
              refine De.Det.read (o := ?o86) (v := ?v86) 35 ?q86 (by kernel_rfl) (by kernel_rfl) ?w86 ?y86 ?h86
              case q86 => (simp only [List.getElem?_toArray, List.getElem?_cons_succ, List.getElem?_cons_zero]; rfl)
              case w86 => kernel_rfl
              case y86 => (intro w' hw'; obtain ⟨c1, c2, c3, c4, c5, c6, c7, c8, c9, c10, c11, c12⟩ := hD.out w' hw'; go_simp; (try with_reducible rfl))
              (try simp only [Act.put, List.setIfInBounds_toArray, List.set_cons_zero, List.set_cons_succ])
              refine De.Det.base ?_
              refine De.Det2.done (by kernel_rfl) ?_
              rintro w10 ⟨hb_w10, hO_w10⟩
              clear hO_w10
              have hbz : Below w.heap.size w w10 := hbn.trans (Below.mono (w := w9) (w' := w10) ⟨hb_w10.os, hb_w10.tape, hb_w10.output, hb_w10.size, hb_w10.block⟩ hbn.size)
              go_wp2_with (fail)
              go_ret
              exact ⟨ret_met (M' := .none) (by rw [← hM.out, hx0.out, hx1.out, hp0.out, hp1.out]; simp [bne, HG.out, HG2.out]) rfl, hbz⟩
            | false =>
              have HG2 := Lib.hid hg2
              refine De.region_det (by kernel_rfl) (by kernel_rfl) ?_
              refine De.Det.read (o := ?o87) (v := ?v87) 0 ?q87 (by kernel_rfl) (by kernel_rfl) ?w87 ?y87 ?h87
              case q87 => (simp only [List.getElem?_toArray, List.getElem?_cons_succ, List.getElem?_cons_zero]; rfl)
              case w87 => kernel_rfl
              case y87 => (intro w' hw'; obtain ⟨c1, c2, c3, c4, c5, c6, c7, c8, c9, c10, c11, c12⟩ := hD.out w' hw'; go_simp; (try with_reducible rfl))
              (try simp only [Act.put, List.setIfInBounds_toArray, List.set_cons_zero, List.set_cons_succ])
              refine De.Det.read (o := ?o88) (v := ?v88) 1 ?q88 (by kernel_rfl) (by kernel_rfl) ?w88 ?y88 ?h88
              case q88 => (simp only [List.getElem?_toArray, List.getElem?_cons_succ, List.getElem?_cons_zero]; rfl)
              case w88 => kernel_rfl
              case y88 => (intro w' hw'; obtain ⟨c1, c2, c3, c4, c5, c6, c7, c8, c9, c10, c11, c12⟩ := hD.out w' hw'; go_simp; (try with_reducible rfl))
              (try simp only [Act.put, List.setIfInBounds_toArray, List.set_cons_zero, List.set_cons_succ])
              refine De.Det.read (o := ?o89) (v := ?v89) 2 ?q89 (by kernel_rfl) (by kernel_rfl) ?w89 ?y89 ?h89
              case q89 => (simp only [List.getElem?_toArray, List.getElem?_cons_succ, List.getElem?_cons_zero]; rfl)
              case w89 => kernel_rfl
              case y89 => (intro w' hw'; obtain ⟨c1, c2, c3, c4, c5, c6, c7, c8, c9, c10, c11, c12⟩ := hD.out w' hw'; go_simp; (try with_reducible rfl))
              (try simp only [Act.put, List.setIfInBounds_toArray, List.set_cons_zero, List.set_cons_succ])
              refine De.Det.read (o := ?o90) (v := ?v90) 3 ?q90 (by kernel_rfl) (by kernel_rfl) ?w90 ?y90 ?h90
              case q90 => (simp only [List.getElem?_toArray, List.getElem?_cons_succ, List.getElem?_cons_zero]; rfl)
              case w90 => kernel_rfl
              case y90 => (intro w' hw'; obtain ⟨c1, c2, c3, c4, c5, c6, c7, c8, c9, c10, c11, c12⟩ := hD.out w' hw'; go_simp; (try with_reducible rfl))
              (try simp only [Act.put, List.setIfInBounds_toArray, List.set_cons_zero, List.set_cons_succ])
              refine De.Det.read (o := ?o91) (v := ?v91) 4 ?q91 (by kernel_rfl) (by kernel_rfl) ?w91 ?y91 ?h91
              case q91 => (simp only [List.getElem?_toArray, List.getElem?_cons_succ, List.getElem?_cons_zero]; rfl)
              case w91 => kernel_rfl
              case y91 => (intro w' hw'; obtain ⟨c1, c2, c3, c4, c5, c6, c7, c8, c9, c10, c11, c12⟩ := hD.out w' hw'; go_simp; (try with_reducible rfl))
              (try simp only [Act.put, List.setIfInBounds_toArray, List.set_cons_zero, List.set_cons_succ])
              refine De.Det.call (o := ?o92) (v := ?v92) (f := ?f92) (args := ?g92) 5 ?q92 (by kernel_rfl) (by kernel_rfl) ?w92 ?e92 ?c92 ?h92
              case q92 => (simp only [List.getElem?_toArray, List.getElem?_cons_succ, List.getElem?_cons_zero]; rfl)
              case w92 => kernel_rfl
              case e92 => (intro w'; go_simp; refine ⟨?_, ?_⟩ <;> with_reducible rfl)
              case c92 => (intro w' hw'; exact (l1.out w'))
              (try simp only [Act.put, List.setIfInBounds_toArray, List.set_cons_zero, List.set_cons_succ])
              refine De.Det.call (o := ?o93) (v := ?v93) (f := ?f93) (args := ?g93) 6 ?q93 (by kernel_rfl) (by kernel_rfl) ?w93 ?e93 ?c93 ?h93
              case q93 => (simp only [List.getElem?_toArray, List.getElem?_cons_succ, List.getElem?_cons_zero]; rfl)
              case w93 => kernel_rfl
              case e93 => (intro w'; go_simp; refine ⟨?_, ?_⟩ <;> with_reducible rfl)
              case c93 => (intro w' hw'; exact (m1.out w'))
              (try simp only [Act.put, List.setIfInBounds_toArray, List.set_cons_zero, List.set_cons_succ])
              refine De.Det.read (o := ?o94) (v := ?v94) 7 ?q94 (by kernel_rfl) (by kernel_rfl) ?w94 ?y94 ?h94
              case q94 => (simp only [List.getElem?_toArray, List.getElem?_cons_succ, List.getElem?_cons_zero]; rfl)
              case w94 => kernel_rfl
              case y94 => (intro w' hw'; obtain ⟨c1, c2, c3, c4, c5, c6, c7, c8, c9, c10, c11, c12⟩ := hD.out w' hw'; go_simp; (try with_reducible rfl))
              (try simp only [Act.put, List.setIfInBounds_toArray, List.set_cons_zero, List.set_cons_succ])
              refine De.Det.read (o := ?o95) (v := ?v95) 8 ?q95 (by kernel_rfl) (by kernel_rfl) ?w95 ?y95 ?h95
              case q95 => (simp only [List.getElem?_toArray, List.getElem?_cons_succ, List.getElem?_cons_zero]; rfl)
              case w95 => kernel_rfl
              case y95 => (intro w' hw'; obtain ⟨c1, c2, c3, c4, c5, c6, c7, c8, c9, c10, c11, c12⟩ := hD.out w' hw'; go_simp; (try with_reducible rfl))
              (try simp only [Act.put, List.setIfInBounds_toArray, List.set_cons_zero, List.set_cons_succ])
              refine De.Det.read (o := ?o96) (v := ?v96) 9 ?q96 (by kernel_rfl) (by kernel_rfl) ?w96 ?y96 ?h96
              case q96 => (simp only [List.getElem?_toArray, List.getElem?_cons_succ, List.getElem?_cons_zero]; rfl)
              case w96 => kernel_rfl
              case y96 => (intro w' hw'; obtain ⟨c1, c2, c3, c4, c5, c6, c7, c8, c9, c10, c11, c12⟩ := hD.out w' hw'; go_simp; (try with_reducible rfl))
              (try simp only [Act.put, List.setIfInBounds_toArray, List.set_cons_zero, List.set_cons_succ])
              refine De.Det.read (o := ?o97) (v := ?v97) 10 ?q97 (by kernel_rfl) (by kernel_rfl) ?w97 ?y97 ?h97
              case q97 => (simp only [List.getElem?_toArray, List.getElem?_cons_succ, List.getElem?_cons_zero]; rfl)
              case w97 => kernel_rfl
              case y97 => (intro w' hw'; obtain ⟨c1, c2, c3, c4, c5, c6, c7, c8, c9, c10, c11, c12⟩ := hD.out w' hw'; go_simp; (try with_reducible rfl))
              (try simp only [Act.put, List.setIfInBounds_toArray, List.set_cons_zero, List.set_cons_succ])
              refine De.Det.read (o := ?o98) (v := ?v98) 11 ?q98 (by kernel_rfl) (by kernel_rfl) ?w98 ?y98 ?h98
              case q98 => (simp only [List.getElem?_toArray, List.getElem?_cons_succ, List.getElem?_cons_zero]; rfl)
              case w98 => kernel_rfl
              case y98 => (intro w' hw'; obtain ⟨c1, c2, c3, c4, c5, c6, c7, c8, c9, c10, c11, c12⟩ := hD.out w' hw'; go_simp; (try with_reducible rfl))
              (try simp only [Act.put, List.setIfInBounds_toArray, List.set_cons_zero, List.set_cons_succ])
              refine De.Det.read (o := ?o99) (v := ?v99) 12 ?q99 (by kernel_rfl) (by kernel_rfl) ?w99 ?y99 ?h99
              case q99 => (simp only [List.getElem?_toArray, List.getElem?_cons_succ, List.getElem?_cons_zero]; rfl)
              case w99 => kernel_rfl
              case y99 => (intro w' hw'; obtain ⟨c1, c2, c3, c4, c5, c6, c7, c8, c9, c10, c11, c12⟩ := hD.out w' hw'; go_simp; (try with_reducible rfl))
              (try simp only [Act.put, List.setIfInBounds_toArray, List.set_cons_zero, List.set_cons_succ])
              refine De.Det.call (o := ?o100) (v := ?v100) (f := ?f100) (args := ?g100) 13 ?q100 (by kernel_rfl) (by kernel_rfl) ?w100 ?e100 ?c100 ?h100
              case q100 => (simp only [List.getElem?_toArray, List.getElem?_cons_succ, List.getElem?_cons_zero]; rfl)
              case w100 => kernel_rfl
              case e100 => (intro w'; go_simp; refine ⟨?_, ?_⟩ <;> with_reducible rfl)
              case c100 => (intro w' hw'; exact (l2.out w'))
              (try simp only [Act.put, List.setIfInBounds_toArray, List.set_cons_zero, List.set_cons_succ])
              refine De.Det.call (o := ?o101) (v := ?v101) (f := ?f101) (args := ?g101) 14 ?q101 (by kernel_rfl) (by kernel_rfl) ?w101 ?e101 ?c101 ?h101
              case q101 => (simp only [List.getElem?_toArray, List.getElem?_cons_succ, List.getElem?_cons_zero]; rfl)
              case w101 => kernel_rfl
              case e101 => (intro w'; go_simp; refine ⟨?_, ?_⟩ <;> with_reducible rfl)
              case c101 => (intro w' hw'; exact (m2.out w'))
              (try simp only [Act.put, List.setIfInBounds_toArray, List.set_cons_zero, List.set_cons_succ])
              refine De.Det.read (o := ?o102) (v := ?v102) 15 ?q102 (by kernel_rfl) (by kernel_rfl) ?w102 ?y102 ?h102
              case q102 => (simp only [List.getElem?_toArray, List.getElem?_cons_succ, List.getElem?_cons_zero]; rfl)
              case w102 => kernel_rfl
              case y102 => (intro w' hw'; obtain ⟨c1, c2, c3, c4, c5, c6, c7, c8, c9, c10, c11, c12⟩ := hD.out w' hw'; go_simp; (try with_reducible rfl))
              (try simp only [Act.put, List.setIfInBounds_toArray, List.set_cons_zero, List.set_cons_succ])
              refine De.Det.read (o := ?o103) (v := ?v103) 16 ?q103 (by kernel_rfl) (by kernel_rfl) ?w103 ?y103 ?h103
              case q103 => (simp only [List.getElem?_toArray, List.getElem?_cons_succ, List.getElem?_cons_zero]; rfl)
              case w103 => kernel_rfl
              case y103 => (intro w' hw'; obtain ⟨c1, c2, c3, c4, c5, c6, c7, c8, c9, c10, c11, c12⟩ := hD.out w' hw'; go_simp; (try with_reducible rfl))
              (try simp only [Act.put, List.setIfInBounds_toArray, List.set_cons_zero, List.set_cons_succ])
              refine De.Det.read (o := ?o104) (v := ?v104) 17 ?q104 (by kernel_rfl) (by kernel_rfl) ?w104 ?y104 ?h104
              case q104 => (simp only [List.getElem?_toArray, List.getElem?_cons_succ, List.getElem?_cons_zero]; rfl)
              case w104 => kernel_rfl
              case y104 => (intro w' hw'; obtain ⟨c1, c2, c3, c4, c5, c6, c7, c8, c9, c10, c11, c12⟩ := hD.out w' hw'; go_simp; (try with_reducible rfl))
              (try simp only [Act.put, List.setIfInBounds_toArray, List.set_cons_zero, List.set_cons_succ])
              refine De.Det.read (o := ?o105) (v := ?v105) 18 ?q105 (by kernel_rfl) (by kernel_rfl) ?w105 ?y105 ?h105
              case q105 => (simp only [List.getElem?_toArray, List.getElem?_cons_succ, List.getElem?_cons_zero]; rfl)
              case w105 => kernel_rfl
              case y105 => (intro w' hw'; obtain ⟨c1, c2, c3, c4, c5, c6, c7, c8, c9, c10, c11, c12⟩ := hD.out w' hw'; go_simp; (try with_reducible rfl))
              (try simp only [Act.put, List.setIfInBounds_toArray, List.set_cons_zero, List.set_cons_succ])
              refine De.Det.read (o := ?o106) (v := ?v106) 19 ?q106 (by kernel_rfl) (by kernel_rfl) ?w106 ?y106 ?h106
              case q106 => (simp only [List.getElem?_toArray, List.getElem?_cons_succ, List.getElem?_cons_zero]; rfl)
              case w106 => kernel_rfl
              case y106 => (intro w' hw'; obtain ⟨c1, c2, c3, c4, c5, c6, c7, c8, c9, c10, c11, c12⟩ := hD.out w' hw'; go_simp; (try with_reducible rfl))
              (try simp only [Act.put, List.setIfInBounds_toArray, List.set_cons_zero, List.set_cons_succ])
              refine De.Det.read (o := ?o107) (v := ?v107) 20 ?q107 (by kernel_rfl) (by kernel_rfl) ?w107 ?y107 ?h107
              case q107 => (simp only [List.getElem?_toArray, List.getElem?_cons_succ, List.getElem?_cons_zero]; rfl)
              case w107 => kernel_rfl
              case y107 => (intro w' hw'; obtain ⟨c1, c2, c3, c4, c5, c6, c7, c8, c9, c10, c11, c12⟩ := hD.out w' hw'; go_simp; (try with_reducible rfl))
              (try simp only [Act.put, List.setIfInBounds_toArray, List.set_cons_zero, List.set_cons_succ])
              refine De.Det.read (o := ?o108) (v := ?v108) 21 ?q108 (by kernel_rfl) (by kernel_rfl) ?w108 ?y108 ?h108
              case q108 => (simp only [List.getElem?_toArray, List.getElem?_cons_succ, List.getElem?_cons_zero]; rfl)
              case w108 => kernel_rfl
              case y108 => (intro w' hw'; obtain ⟨c1, c2, c3, c4, c5, c6, c7, c8, c9, c10, c11, c12⟩ := hD.out w' hw'; go_simp; (try with_reducible rfl))
              (try simp only [Act.put, List.setIfInBounds_toArray, List.set_cons_zero, List.set_cons_succ])
              refine De.Det.read (o := ?o109) (v := ?v109) 22 ?q109 (by kernel_rfl) (by kernel_rfl) ?w109 ?y109 ?h109
              case q109 => (simp only [List.getElem?_toArray, List.getElem?_cons_succ, List.getElem?_cons_zero]; rfl)
              case w109 => kernel_rfl
              case y109 => (intro w' hw'; obtain ⟨c1, c2, c3, c4, c5, c6, c7, c8, c9, c10, c11, c12⟩ := hD.out w' hw'; go_simp; (try with_reducible rfl))
              (try simp only [Act.put, List.setIfInBounds_toArray, List.set_cons_zero, List.set_cons_succ])
              refine De.Det.call (o := ?o110) (v := ?v110) (f := ?f110) (args := ?g110) 23 ?q110 (by kernel_rfl) (by kernel_rfl) ?w110 ?e110 ?c110 ?h110
              case q110 => (simp only [List.getElem?_toArray, List.getElem?_cons_succ, List.getElem?_cons_zero]; rfl)
              case w110 => kernel_rfl
              case e110 => (intro w'; go_simp; refine ⟨?_, ?_⟩ <;> with_reducible rfl)
              case c110 => (intro w' hw'; exact (l3.out w'))
              (try simp only [Act.put, List.setIfInBounds_toArray, List.set_cons_zero, List.set_cons_succ])
              refine De.Det.call (o := ?o111) (v := ?v111) (f := ?f111) (args := ?g111) 24 ?q111 (by kernel_rfl) (by kernel_rfl) ?w111 ?e111 ?c111 ?h111
              case q111 => (simp only [List.getElem?_toArray, List.getElem?_cons_succ, List.getElem?_cons_zero]; rfl)
              case w111 => kernel_rfl
              case e111 => (intro w'; go_simp; refine ⟨?_, ?_⟩ <;> with_reducible rfl)
              case c111 => (intro w' hw'; exact (m3.out w'))
              (try simp only [Act.put, List.setIfInBounds_toArray, List.set_cons_zero, List.set_cons_succ])
              refine De.Det.read (o := ?o112) (v := ?v112) 25 ?q112 (by kernel_rfl) (by kernel_rfl) ?w112 ?y112 ?h112
              case q112 => (simp only [List.getElem?_toArray, List.getElem?_cons_succ, List.getElem?_cons_zero]; rfl)
              case w112 => kernel_rfl
              case y112 => (intro w' hw'; obtain ⟨c1, c2, c3, c4, c5, c6, c7, c8, c9, c10, c11, c12⟩ := hD.out w' hw'; go_simp; (try with_reducible rfl))
              (try simp only [Act.put, List.setIfInBounds_toArray, List.set_cons_zero, List.set_cons_succ])
              refine De.Det.read (o := ?o113) (v := ?v113) 26 ?q113 (by kernel_rfl) (by kernel_rfl) ?w113 ?y113 ?h113
              case q113 => (simp only [List.getElem?_toArray, List.getElem?_cons_succ, List.getElem?_cons_zero]; rfl)
              case w113 => kernel_rfl
              case y113 => (intro w' hw'; obtain ⟨c1, c2, c3, c4, c5, c6, c7, c8, c9, c10, c11, c12⟩ := hD.out w' hw'; go_simp; (try with_reducible rfl))
              (try simp only [Act.put, List.setIfInBounds_toArray, List.set_cons_zero, List.set_cons_succ])
              refine De.Det.read (o := ?o114) (v := ?v114) 27 ?q114 (by kernel_rfl) (by kernel_rfl) ?w114 ?y114 ?h114
              case q114 => (simp only [List.getElem?_toArray, List.getElem?_cons_succ, List.getElem?_cons_zero]; rfl)
              case w114 => kernel_rfl
              case y114 => (intro w' hw'; obtain ⟨c1, c2, c3, c4, c5, c6, c7, c8, c9, c10, c11, c12⟩ := hD.out w' hw'; go_simp; (try with_reducible rfl))
              (try simp only [Act.put, List.setIfInBounds_toArray, List.set_cons_zero, List.set_cons_succ])
              refine De.Det.read (o := ?o115) (v := ?v115) 28 ?q115 (by kernel_rfl) (by kernel_rfl) ?w115 ?y115 ?h115
              case q115 => (simp only [List.getElem?_toArray, List.getElem?_cons_succ, List.getElem?_cons_zero]; rfl)
              case w115 => kernel_rfl
              case y115 => (intro w' hw'; obtain ⟨c1, c2, c3, c4, c5, c6, c7, c8, c9, c10, c11, c12⟩ := hD.out w' hw'; go_simp; (try with_reducible rfl))
              (try simp only [Act.put, List.setIfInBounds_toArray, List.set_cons_zero, List.set_cons_succ])
              refine De.Det.read (o := ?o116) (v := ?v116) 29 ?q116 (by kernel_rfl) (by kernel_rfl) ?w116 ?y116 ?h116
              case q116 => (simp only [List.getElem?_toArray, List.getElem?_cons_succ, List.getElem?_cons_zero]; rfl)
              case w116 => kernel_rfl
              case y116 => (intro w' hw'; obtain ⟨c1, c2, c3, c4, c5, c6, c7, c8, c9, c10, c11, c12⟩ := hD.out w' hw'; go_simp; (try with_reducible rfl))
              (try simp only [Act.put, List.setIfInBounds_toArray, List.set_cons_zero, List.set_cons_succ])
              refine De.Det.read (o := ?o117) (v := ?v117) 30 ?q117 (by kernel_rfl) (by kernel_rfl) ?w117 ?y117 ?h117
              case q117 => (simp only [List.getElem?_toArray, List.getElem?_cons_succ, List.getElem?_cons_zero]; rfl)
              case w117 => kernel_rfl
              case y117 => (intro w' hw'; obtain ⟨c1, c2, c3, c4, c5, c6, c7, c8, c9, c10, c11, c12⟩ := hD.out w' hw'; go_simp; (try with_reducible rfl))
              (try simp only [Act.put, List.setIfInBounds_toArray, List.set_cons_zero, List.set_cons_succ])
              refine De.Det.call (o := ?o118) (v := ?v118) (f := ?f118) (args := ?g118) 31 ?q118 (by kernel_rfl) (by kernel_rfl) ?w118 ?e118 ?c118 ?h118
              case q118 => (simp only [List.getElem?_toArray, List.getElem?_cons_succ, List.getElem?_cons_zero]; rfl)
              case w118 => kernel_rfl
              case e118 => (intro w'; go_simp; refine ⟨?_, ?_⟩ <;> with_reducible rfl)
              case c118 => (intro w' hw'; exact (l4.out w'))
              (try simp only [Act.put, List.setIfInBounds_toArray, List.set_cons_zero, List.set_cons_succ])
              refine De.Det.call (o := ?o119) (v := ?v119) (f := ?f119) (args := ?g119) 32 ?q119 (by kernel_rfl) (by kernel_rfl) ?w119 ?e119 ?c119 ?h119
              case q119 => (simp only [List.getElem?_toArray, List.getElem?_cons_succ, List.getElem?_cons_zero]; rfl)
              case w119 => kernel_rfl
              case e119 => (intro w'; go_simp; refine ⟨?_, ?_⟩ <;> with_reducible rfl)
              case c119 => (intro w' hw'; exact (m4.out w'))
              (try simp only [Act.put, List.setIfInBounds_toArray, List.set_cons_zero, List.set_cons_succ])
              refine De.Det.read (o := ?o120) (v := ?v120) 33 ?q120 (by kernel_rfl) (by kernel_rfl) ?w120 ?y120 ?h120
              case q120 => (simp only [List.getElem?_toArray, List.getElem?_cons_succ, List.getElem?_cons_zero]; rfl)
              case w120 => kernel_rfl
              case y120 => (intro w' hw'; obtain ⟨c1, c2, c3, c4, c5, c6, c7, c8, c9, c10, c11, c12⟩ := hD.out w' hw'; go_simp; (try with_reducible rfl))
              (try simp only [Act.put, List.setIfInBounds_toArray, List.set_cons_zero, List.set_cons_succ])
              refine De.Det.read (o := ?o121) (v := ?v121) 34 ?q121 (by kernel_rfl) (by kernel_rfl) ?w121 ?y121 ?h121
              case q121 => (simp only [List.getElem?_toArray, List.getElem?_cons_succ, List.getElem?_cons_zero]; rfl)
              case w121 => kernel_rfl
              case y121 => (intro w' hw'; obtain ⟨c1, c2, c3, c4, c5, c6, c7, c8, c9, c10, c11, c12⟩ := hD.out w' hw'; go_simp; (try with_reducible rfl))
              (try simp only [Act.put, List.setIfInBounds_toArray, List.set_cons_zero, List.set_cons_succ])
              refine De.Det.read (o := ?o122) (v := ?v122) 35 ?q122 (by kernel_rfl) (by kernel_rfl) ?w122 ?y122 ?h122
              case q122 => (simp only [List.getElem?_toArray, List.getElem?_cons_succ, List.getElem?_cons_zero]; rfl)
              case w122 => kernel_rfl
              case y122 => (intro w' hw'; obtain ⟨c1, c2, c3, c4, c5, c6, c7, c8, c9, c10, c11, c12⟩ := hD.out w' hw'; go_simp; (try with_reducible rfl))
              (try simp only [Act.put, List.setIfInBounds_toArray, List.set_cons_zero, List.set_cons_succ])
              refine De.Det.base ?_
              refine De.Det2.done (by kernel_rfl) ?_
              rintro w10 ⟨hb_w10, hO_w10⟩
              clear hO_w10
              have hbz : Below w.heap.size w w10 := hbn.trans (Below.mono (w := w9) (w' := w10) ⟨hb_w10.os, hb_w10.tape, hb_w10.output, hb_w10.size, hb_w10.block⟩ hbn.size)
              go_wp2_with (fail)
              go_ret
              exact ⟨ret_met (M' := .cross) (by rw [← hM.out, hx0.out, hx1.out, hp0.out, hp1.out]; simp [bne, HG.out, HG2.out]) rfl, hbz⟩
end Du
end Go.Proofs.YtkbfmogjhjdjmaaDoor
