/- pattern's outline: cut. -/
import Derived.Test.YtkbfmogjhjdjmaaDoorDuJ
import Derived.Deep.CutRange
namespace Go.Proofs.YtkbfmogjhjdjmaaDoor
open Go.RowKit
namespace Du
set_option linter.unusedSimpArgs false
def farN (n a b : Nat) : Nat := (b + n - a) % n
def openO (o : List Pt) (a b : Nat) : Bool :=
  let A := at' o a
  let d := less (at' o b) A
  let bf := less (prev o a) A
  let af := less (at' o (a + 1)) A
  if areaF o < 0 then openB bf af d else openB af bf d
theorem cut_far {o : List Pt} {a b n : Nat} (hn : o.length = n) (h : farN n a b < 2 ∨ n - 2 < farN n a b) : cutO o a b = false := by
  subst hn
  unfold farN at h
  unfold cutO
  simp only []
  rw [if_pos h]
theorem cut_near {o : List Pt} {a b n : Nat} (hn : o.length = n) (h : ¬ (farN n a b < 2 ∨ n - 2 < farN n a b)) : cutO o a b = (openO o a b && (List.range n).all fun i => lineOk (at' o a) (at' o b) (at' o i) (at' o (i + 1))) := by
  subst hn
  unfold farN at h
  unfold cutO
  simp only []
  rw [if_neg h]
  rfl
theorem all_bad {n i : Nat} {f : Nat → Bool} (hi : i < n) (h : f i = false) : (List.range n).all f = false := by
  rw [Bool.eq_false_iff]
  intro ha
  have := List.all_eq_true.1 ha i (List.mem_range.2 hi)
  rw [h] at this
  cases this
theorem all_good {n : Nat} {f : Nat → Bool} (h : ∀ i, i < n → f i = true) : (List.range n).all f = true := List.all_eq_true.2 fun i hi => h i (List.mem_range.1 hi)
theorem ta_none (w : World) : (Instr.typeAssert Value.nilIface 20 35 true).run Tryd.prog w = .ok (.tuple #[.agg #[.int .i64 0, .int .i64 0], .bool false]) w := by kernel_rfl
theorem ta_cross (w : World) : (Instr.typeAssert (.iface 71 (.agg #[])) 20 35 true).run Tryd.prog w = .ok (.tuple #[.agg #[.int .i64 0, .int .i64 0], .bool false]) w := by kernel_rfl
theorem ta_pt (a b : Int) (w : World) : (Instr.typeAssert (.iface 35 (.agg #[.int .i64 a, .int .i64 b])) 20 35 true).run Tryd.prog w = .ok (.tuple #[.agg #[.int .i64 a, .int .i64 b], .bool true]) w := by kernel_rfl
theorem sm_prev {o : List Pt} (h : SmL 12 o) (h0 : 0 < o.length) (i : Nat) : Sm 12 (prev o i) := at_sm h h0 _
set_option maxRecDepth 100000 in
set_option maxHeartbeats 12000000 in
theorem cut_ok (A : Option Addr) (n c a b : Nat) (o : List Pt) (hn : o.length = n) (h3 : 3 ≤ n) (h8 : n ≤ 8) (ha : a < n) (hb : b < n) (hs : SmL 12 o) (w : World) (hP : PtS w A o) :
    Calls Tryd.prog 27 #[.slice A n c, .int .i64 a, .int .i64 b] w fun e w' => e = .returned (.bool (cutO o a b)) ∧ Below w.heap.size w w' := by
  have hai : (a : Int) < n := by omega
  have hbi : (b : Int) < n := by omega
  have hni : (n : Int) ≤ 8 := by omega
  obtain ⟨F, hF⟩ : ∃ F, farN n a b = F := ⟨_, rfl⟩
  have hFi : Int.tmod ((b : Int) - a + n) n = F := by
    rw [← hF]
    unfold farN
    rw [← tmod_nat]
    congr 1
    omega
  have hFn : F < n := by rw [← hF]; exact Nat.mod_lt _ (by omega)
  by_cases hfar : F < 2 ∨ n - 2 < F
  · rw [cut_far hn (by rw [hF]; exact hfar)]
    clear hF hP hs hn
    rcases Nat.lt_or_ge F 2 with h | h
    · have hFl : (F : Int) < 2 := by omega
      go_enter Tryd.func27, Tryd.ntmps27
      go_wp2_with (fail)
      go_ret
      exact ⟨rfl, Below.refl _ _⟩
    · have hFl : ¬ (F : Int) < 2 := by omega
      have hFr : (n : Int) - 2 < F := by omega
      clear hfar
      go_enter Tryd.func27, Tryd.ntmps27
      go_wp2_with (fail)
      go_ret
      exact ⟨rfl, Below.refl _ _⟩
  have HCUT := Lib.hid (cut_near (a := a) (b := b) hn (by rw [hF]; exact hfar))
  have hFl : ¬ (F : Int) < 2 := by omega
  have hFr : ¬ (n : Int) - 2 < F := by omega
  obtain ⟨CC, hCC⟩ : ∃ C, cutO o a b = C := ⟨_, rfl⟩
  rw [hCC] at HCUT ⊢
  clear hfar hF hCC
  have hsm := Lib.hid (fun i => at_sm hs (by omega) i)
  have hsp := Lib.hid (fun i => sm_prev hs (by omega) i)
  have hside := Lib.hid (fun w' (hb : Below w.heap.size w w') i hi => side_nat A n c o hn (by omega) h8 w' (hP.below hb) i hi)
  have harea := Lib.hid (fun w' (hb : Below w.heap.size w w') => area_ok A n c o hn h3 h8 hs w' (hP.below hb))
  have hatp := Lib.hid (fun w' (hb : Below w.heap.size w w') => at_prev A n c o hn (by omega) h8 w' (hP.below hb) a (by omega))
  have hatn : Hid (∀ w', Below w.heap.size w w' → Calls Tryd.prog 15 #[.slice A n c, .int .i64 ((a : Int) + 1)] w' fun e w'' => e = .returned (ptV (at' o (a + 1))) ∧ Below w'.heap.size w' w'') := fun w' hb => by
    have := at_nat A n c o hn (by omega) h8 w' (hP.below hb) (a + 1) (by omega)
    rw [show ((a + 1 : Nat) : Int) = (a : Int) + 1 by omega] at this
    exact this
  obtain ⟨g, rfl, hgl, hcell⟩ := hP.cells (by omega)
  have hca := Lib.hid (fun w' hb' => hcell w' hb' a _ (get_at (by omega)))
  have hcb := Lib.hid (fun w' hb' => hcell w' hb' b _ (get_at (by omega)))
  clear hP hcell hs
  have pA := hsm.out a
  have pB := hsm.out b
  have pV := hsp.out a
  have pN := hsm.out (a + 1)
  unfold openO at HCUT
  simp only [] at HCUT
  have q1 := sm_less pB pA
  have q2 := sm_less pV pA
  have q3 := sm_less pN pA
  have l1 := Lib.hid (fun w' => less_ok _ _ (pB.up (by decide : (12 : Int) ≤ 1000)) (pA.up (by decide)) w')
  have l2 := Lib.hid (fun w' => less_ok _ _ (pV.up (by decide : (12 : Int) ≤ 1000)) (pA.up (by decide)) w')
  have l3 := Lib.hid (fun w' => less_ok _ _ (pN.up (by decide : (12 : Int) ≤ 1000)) (pA.up (by decide)) w')
  obtain ⟨T, hT⟩ : ∃ T, less (at' o b) (at' o a) = T := ⟨_, rfl⟩
  obtain ⟨V, hV⟩ : ∃ T, less (prev o a) (at' o a) = T := ⟨_, rfl⟩
  obtain ⟨N, hN⟩ : ∃ T, less (at' o (a + 1)) (at' o a) = T := ⟨_, rfl⟩
  rw [hT] at l1 q1 HCUT
  rw [hV] at l2 q2 HCUT
  rw [hN] at l3 q3 HCUT
  clear hT hV hN
  obtain ⟨z, hz⟩ : ∃ z, areaF o = z := ⟨_, rfl⟩
  rw [hz] at harea HCUT
  clear hz
  obtain ⟨PA, hPA⟩ : ∃ p, at' o a = p := ⟨_, rfl⟩
  obtain ⟨PB, hPB⟩ : ∃ p, at' o b = p := ⟨_, rfl⟩
  rw [hPA] at pA hca l1 l2 l3 HCUT
  rw [hPB] at pB hcb l1 HCUT
  clear hPA hPB
  obtain ⟨PV, hPV⟩ : ∃ p, prev o a = p := ⟨_, rfl⟩
  obtain ⟨PN, hPN⟩ : ∃ p, at' o (a + 1) = p := ⟨_, rfl⟩
  rw [hPV] at hatp l2
  rw [hPN] at hatn l3
  clear hPV hPN pV pN
  obtain ⟨a1, a2⟩ := PA
  obtain ⟨b1, b2⟩ := PB
  obtain ⟨v1, v2⟩ := PV
  obtain ⟨n1, n2⟩ := PN
  obtain ⟨T1, T2⟩ := T
  obtain ⟨V1, V2⟩ := V
  obtain ⟨N1, N2⟩ := N
  have ha0 : (0 : Int) ≤ a := by omega
  have hb0 : (0 : Int) ≤ b := by omega
  have hw1 : IntKind.i64.wrap ((a : Int) - 1) = (a : Int) - 1 := IntWalk.i64_in _ (by omega)
  have hw2 : IntKind.i64.wrap ((a : Int) + 1) = (a : Int) + 1 := IntWalk.i64_in _ (by omega)
  replace hw1 := Lib.hid hw1
  replace hw2 := Lib.hid hw2
  go_enter Tryd.func27, Tryd.ntmps27
  go_wp2_with (fail)
  have hC : Hid (∀ w', Below w.drew.heap.size w.drew w' → w'.cell? ⟨g, a * 2, none⟩ = some (.int .i64 a1) ∧ w'.cell? ⟨g, a * 2 + 1, none⟩ = some (.int .i64 a2) ∧ w'.cell? ⟨g, b * 2, none⟩ = some (.int .i64 b1) ∧ w'.cell? ⟨g, b * 2 + 1, none⟩ = some (.int .i64 b2)) := fun w' hw =>
    ⟨(hca.out w' (drew_up hw)).1, (hca.out w' (drew_up hw)).2, (hcb.out w' (drew_up hw)).1, (hcb.out w' (drew_up hw)).2⟩
  replace hw1 := hw1.out
  replace hw2 := hw2.out
  refine De.region_det (by kernel_rfl) (by kernel_rfl) ?_
  refine De.Det.read (o := ?o1) (v := ?v1) 0 ?q1 (by kernel_rfl) (by kernel_rfl) ?w1 ?y1 ?h1
  case q1 => (simp only [List.getElem?_toArray, List.getElem?_cons_succ, List.getElem?_cons_zero]; rfl)
  case w1 => kernel_rfl
  case y1 => (intro w' hw'; obtain ⟨c1, c2, c3, c4⟩ := hC.out w' hw'; go_simp; (try with_reducible rfl))
  (try simp only [Act.put, List.setIfInBounds_toArray, List.set_cons_zero, List.set_cons_succ])
  refine De.Det.read (o := ?o2) (v := ?v2) 1 ?q2 (by kernel_rfl) (by kernel_rfl) ?w2 ?y2 ?h2
  case q2 => (simp only [List.getElem?_toArray, List.getElem?_cons_succ, List.getElem?_cons_zero]; rfl)
  case w2 => kernel_rfl
  case y2 => (intro w' hw'; obtain ⟨c1, c2, c3, c4⟩ := hC.out w' hw'; go_simp; (try with_reducible rfl))
  (try simp only [Act.put, List.setIfInBounds_toArray, List.set_cons_zero, List.set_cons_succ])
  refine De.Det.read (o := ?o3) (v := ?v3) 2 ?q3 (by kernel_rfl) (by kernel_rfl) ?w3 ?y3 ?h3
  case q3 => (simp only [List.getElem?_toArray, List.getElem?_cons_succ, List.getElem?_cons_zero]; rfl)
  case w3 => kernel_rfl
  case y3 => (intro w' hw'; obtain ⟨c1, c2, c3, c4⟩ := hC.out w' hw'; go_simp; (try with_reducible rfl))
  (try simp only [Act.put, List.setIfInBounds_toArray, List.set_cons_zero, List.set_cons_succ])
  refine De.Det.read (o := ?o4) (v := ?v4) 3 ?q4 (by kernel_rfl) (by kernel_rfl) ?w4 ?y4 ?h4
  case q4 => (simp only [List.getElem?_toArray, List.getElem?_cons_succ, List.getElem?_cons_zero]; rfl)
  case w4 => kernel_rfl
  case y4 => (intro w' hw'; obtain ⟨c1, c2, c3, c4⟩ := hC.out w' hw'; go_simp; (try with_reducible rfl))
  (try simp only [Act.put, List.setIfInBounds_toArray, List.set_cons_zero, List.set_cons_succ])
  refine De.Det.read (o := ?o5) (v := ?v5) 4 ?q5 (by kernel_rfl) (by kernel_rfl) ?w5 ?y5 ?h5
  case q5 => (simp only [List.getElem?_toArray, List.getElem?_cons_succ, List.getElem?_cons_zero]; rfl)
  case w5 => kernel_rfl
  case y5 => (intro w' hw'; obtain ⟨c1, c2, c3, c4⟩ := hC.out w' hw'; go_simp; (try with_reducible rfl))
  (try simp only [Act.put, List.setIfInBounds_toArray, List.set_cons_zero, List.set_cons_succ])
  refine De.Det.read (o := ?o6) (v := ?v6) 5 ?q6 (by kernel_rfl) (by kernel_rfl) ?w6 ?y6 ?h6
  case q6 => (simp only [List.getElem?_toArray, List.getElem?_cons_succ, List.getElem?_cons_zero]; rfl)
  case w6 => kernel_rfl
  case y6 => (intro w' hw'; obtain ⟨c1, c2, c3, c4⟩ := hC.out w' hw'; go_simp; (try with_reducible rfl))
  (try simp only [Act.put, List.setIfInBounds_toArray, List.set_cons_zero, List.set_cons_succ])
  refine De.Det.read (o := ?o7) (v := ?v7) 6 ?q7 (by kernel_rfl) (by kernel_rfl) ?w7 ?y7 ?h7
  case q7 => (simp only [List.getElem?_toArray, List.getElem?_cons_succ, List.getElem?_cons_zero]; rfl)
  case w7 => kernel_rfl
  case y7 => (intro w' hw'; obtain ⟨c1, c2, c3, c4⟩ := hC.out w' hw'; go_simp; (try with_reducible rfl))
  (try simp only [Act.put, List.setIfInBounds_toArray, List.set_cons_zero, List.set_cons_succ])
  refine De.Det.read (o := ?o8) (v := ?v8) 7 ?q8 (by kernel_rfl) (by kernel_rfl) ?w8 ?y8 ?h8
  case q8 => (simp only [List.getElem?_toArray, List.getElem?_cons_succ, List.getElem?_cons_zero]; rfl)
  case w8 => kernel_rfl
  case y8 => (intro w' hw'; obtain ⟨c1, c2, c3, c4⟩ := hC.out w' hw'; go_simp; (try with_reducible rfl))
  (try simp only [Act.put, List.setIfInBounds_toArray, List.set_cons_zero, List.set_cons_succ])
  refine De.Det.call (o := ?o9) (v := ?v9) (f := ?f9) (args := ?g9) 8 ?q9 (by kernel_rfl) (by kernel_rfl) ?w9 ?e9 ?c9 ?h9
  case q9 => (simp only [List.getElem?_toArray, List.getElem?_cons_succ, List.getElem?_cons_zero]; rfl)
  case w9 => kernel_rfl
  case e9 => (intro w'; go_simp; refine ⟨?_, ?_⟩ <;> with_reducible rfl)
  case c9 => (intro w' hw'; exact (l1.out w'))
  (try simp only [Act.put, List.setIfInBounds_toArray, List.set_cons_zero, List.set_cons_succ])
  refine De.Det.read (o := ?o10) (v := ?v10) 9 ?q10 (by kernel_rfl) (by kernel_rfl) ?w10 ?y10 ?h10
  case q10 => (simp only [List.getElem?_toArray, List.getElem?_cons_succ, List.getElem?_cons_zero]; rfl)
  case w10 => kernel_rfl
  case y10 => (intro w' hw'; obtain ⟨c1, c2, c3, c4⟩ := hC.out w' hw'; go_simp; (try with_reducible rfl))
  (try simp only [Act.put, List.setIfInBounds_toArray, List.set_cons_zero, List.set_cons_succ])
  refine De.Det.read (o := ?o11) (v := ?v11) 10 ?q11 (by kernel_rfl) (by kernel_rfl) ?w11 ?y11 ?h11
  case q11 => (simp only [List.getElem?_toArray, List.getElem?_cons_succ, List.getElem?_cons_zero]; rfl)
  case w11 => kernel_rfl
  case y11 => (intro w' hw'; obtain ⟨c1, c2, c3, c4⟩ := hC.out w' hw'; go_simp; (try with_reducible rfl))
  (try simp only [Act.put, List.setIfInBounds_toArray, List.set_cons_zero, List.set_cons_succ])
  refine De.Det.read (o := ?o12) (v := ?v12) 11 ?q12 (by kernel_rfl) (by kernel_rfl) ?w12 ?y12 ?h12
  case q12 => (simp only [List.getElem?_toArray, List.getElem?_cons_succ, List.getElem?_cons_zero]; rfl)
  case w12 => kernel_rfl
  case y12 => (intro w' hw'; obtain ⟨c1, c2, c3, c4⟩ := hC.out w' hw'; go_simp; (try with_reducible rfl))
  (try simp only [Act.put, List.setIfInBounds_toArray, List.set_cons_zero, List.set_cons_succ])
  refine De.Det.call (o := ?o13) (v := ?v13) (f := ?f13) (args := ?g13) 12 ?q13 (by kernel_rfl) (by kernel_rfl) ?w13 ?e13 ?c13 ?h13
  case q13 => (simp only [List.getElem?_toArray, List.getElem?_cons_succ, List.getElem?_cons_zero]; rfl)
  case w13 => kernel_rfl
  case e13 => (intro w'; go_simp; refine ⟨?_, ?_⟩ <;> with_reducible rfl)
  case c13 => (intro w' hw'; exact (hatp.out w' (drew_up hw')))
  (try simp only [Act.put, List.setIfInBounds_toArray, List.set_cons_zero, List.set_cons_succ])
  refine De.Det.read (o := ?o14) (v := ?v14) 13 ?q14 (by kernel_rfl) (by kernel_rfl) ?w14 ?y14 ?h14
  case q14 => (simp only [List.getElem?_toArray, List.getElem?_cons_succ, List.getElem?_cons_zero]; rfl)
  case w14 => kernel_rfl
  case y14 => (intro w' hw'; obtain ⟨c1, c2, c3, c4⟩ := hC.out w' hw'; go_simp; (try with_reducible rfl))
  (try simp only [Act.put, List.setIfInBounds_toArray, List.set_cons_zero, List.set_cons_succ])
  refine De.Det.read (o := ?o15) (v := ?v15) 14 ?q15 (by kernel_rfl) (by kernel_rfl) ?w15 ?y15 ?h15
  case q15 => (simp only [List.getElem?_toArray, List.getElem?_cons_succ, List.getElem?_cons_zero]; rfl)
  case w15 => kernel_rfl
  case y15 => (intro w' hw'; obtain ⟨c1, c2, c3, c4⟩ := hC.out w' hw'; go_simp; (try with_reducible rfl))
  (try simp only [Act.put, List.setIfInBounds_toArray, List.set_cons_zero, List.set_cons_succ])
  refine De.Det.read (o := ?o16) (v := ?v16) 15 ?q16 (by kernel_rfl) (by kernel_rfl) ?w16 ?y16 ?h16
  case q16 => (simp only [List.getElem?_toArray, List.getElem?_cons_succ, List.getElem?_cons_zero]; rfl)
  case w16 => kernel_rfl
  case y16 => (intro w' hw'; obtain ⟨c1, c2, c3, c4⟩ := hC.out w' hw'; go_simp; (try with_reducible rfl))
  (try simp only [Act.put, List.setIfInBounds_toArray, List.set_cons_zero, List.set_cons_succ])
  refine De.Det.read (o := ?o17) (v := ?v17) 16 ?q17 (by kernel_rfl) (by kernel_rfl) ?w17 ?y17 ?h17
  case q17 => (simp only [List.getElem?_toArray, List.getElem?_cons_succ, List.getElem?_cons_zero]; rfl)
  case w17 => kernel_rfl
  case y17 => (intro w' hw'; obtain ⟨c1, c2, c3, c4⟩ := hC.out w' hw'; go_simp; (try with_reducible rfl))
  (try simp only [Act.put, List.setIfInBounds_toArray, List.set_cons_zero, List.set_cons_succ])
  refine De.Det.call (o := ?o18) (v := ?v18) (f := ?f18) (args := ?g18) 17 ?q18 (by kernel_rfl) (by kernel_rfl) ?w18 ?e18 ?c18 ?h18
  case q18 => (simp only [List.getElem?_toArray, List.getElem?_cons_succ, List.getElem?_cons_zero]; rfl)
  case w18 => kernel_rfl
  case e18 => (intro w'; go_simp; refine ⟨?_, ?_⟩ <;> with_reducible rfl)
  case c18 => (intro w' hw'; exact (l2.out w'))
  (try simp only [Act.put, List.setIfInBounds_toArray, List.set_cons_zero, List.set_cons_succ])
  refine De.Det.read (o := ?o19) (v := ?v19) 18 ?q19 (by kernel_rfl) (by kernel_rfl) ?w19 ?y19 ?h19
  case q19 => (simp only [List.getElem?_toArray, List.getElem?_cons_succ, List.getElem?_cons_zero]; rfl)
  case w19 => kernel_rfl
  case y19 => (intro w' hw'; obtain ⟨c1, c2, c3, c4⟩ := hC.out w' hw'; go_simp; (try with_reducible rfl))
  (try simp only [Act.put, List.setIfInBounds_toArray, List.set_cons_zero, List.set_cons_succ])
  refine De.Det.read (o := ?o20) (v := ?v20) 19 ?q20 (by kernel_rfl) (by kernel_rfl) ?w20 ?y20 ?h20
  case q20 => (simp only [List.getElem?_toArray, List.getElem?_cons_succ, List.getElem?_cons_zero]; rfl)
  case w20 => kernel_rfl
  case y20 => (intro w' hw'; obtain ⟨c1, c2, c3, c4⟩ := hC.out w' hw'; go_simp; (try with_reducible rfl))
  (try simp only [Act.put, List.setIfInBounds_toArray, List.set_cons_zero, List.set_cons_succ])
  refine De.Det.read (o := ?o21) (v := ?v21) 20 ?q21 (by kernel_rfl) (by kernel_rfl) ?w21 ?y21 ?h21
  case q21 => (simp only [List.getElem?_toArray, List.getElem?_cons_succ, List.getElem?_cons_zero]; rfl)
  case w21 => kernel_rfl
  case y21 => (intro w' hw'; obtain ⟨c1, c2, c3, c4⟩ := hC.out w' hw'; go_simp; (try with_reducible rfl))
  (try simp only [Act.put, List.setIfInBounds_toArray, List.set_cons_zero, List.set_cons_succ])
  refine De.Det.call (o := ?o22) (v := ?v22) (f := ?f22) (args := ?g22) 21 ?q22 (by kernel_rfl) (by kernel_rfl) ?w22 ?e22 ?c22 ?h22
  case q22 => (simp only [List.getElem?_toArray, List.getElem?_cons_succ, List.getElem?_cons_zero]; rfl)
  case w22 => kernel_rfl
  case e22 => (intro w'; go_simp; refine ⟨?_, ?_⟩ <;> with_reducible rfl)
  case c22 => (intro w' hw'; exact (hatn.out w' (drew_up hw')))
  (try simp only [Act.put, List.setIfInBounds_toArray, List.set_cons_zero, List.set_cons_succ])
  refine De.Det.read (o := ?o23) (v := ?v23) 22 ?q23 (by kernel_rfl) (by kernel_rfl) ?w23 ?y23 ?h23
  case q23 => (simp only [List.getElem?_toArray, List.getElem?_cons_succ, List.getElem?_cons_zero]; rfl)
  case w23 => kernel_rfl
  case y23 => (intro w' hw'; obtain ⟨c1, c2, c3, c4⟩ := hC.out w' hw'; go_simp; (try with_reducible rfl))
  (try simp only [Act.put, List.setIfInBounds_toArray, List.set_cons_zero, List.set_cons_succ])
  refine De.Det.read (o := ?o24) (v := ?v24) 23 ?q24 (by kernel_rfl) (by kernel_rfl) ?w24 ?y24 ?h24
  case q24 => (simp only [List.getElem?_toArray, List.getElem?_cons_succ, List.getElem?_cons_zero]; rfl)
  case w24 => kernel_rfl
  case y24 => (intro w' hw'; obtain ⟨c1, c2, c3, c4⟩ := hC.out w' hw'; go_simp; (try with_reducible rfl))
  (try simp only [Act.put, List.setIfInBounds_toArray, List.set_cons_zero, List.set_cons_succ])
  refine De.Det.read (o := ?o25) (v := ?v25) 24 ?q25 (by kernel_rfl) (by kernel_rfl) ?w25 ?y25 ?h25
  case q25 => (simp only [List.getElem?_toArray, List.getElem?_cons_succ, List.getElem?_cons_zero]; rfl)
  case w25 => kernel_rfl
  case y25 => (intro w' hw'; obtain ⟨c1, c2, c3, c4⟩ := hC.out w' hw'; go_simp; (try with_reducible rfl))
  (try simp only [Act.put, List.setIfInBounds_toArray, List.set_cons_zero, List.set_cons_succ])
  refine De.Det.read (o := ?o26) (v := ?v26) 25 ?q26 (by kernel_rfl) (by kernel_rfl) ?w26 ?y26 ?h26
  case q26 => (simp only [List.getElem?_toArray, List.getElem?_cons_succ, List.getElem?_cons_zero]; rfl)
  case w26 => kernel_rfl
  case y26 => (intro w' hw'; obtain ⟨c1, c2, c3, c4⟩ := hC.out w' hw'; go_simp; (try with_reducible rfl))
  (try simp only [Act.put, List.setIfInBounds_toArray, List.set_cons_zero, List.set_cons_succ])
  refine De.Det.call (o := ?o27) (v := ?v27) (f := ?f27) (args := ?g27) 26 ?q27 (by kernel_rfl) (by kernel_rfl) ?w27 ?e27 ?c27 ?h27
  case q27 => (simp only [List.getElem?_toArray, List.getElem?_cons_succ, List.getElem?_cons_zero]; rfl)
  case w27 => kernel_rfl
  case e27 => (intro w'; go_simp; refine ⟨?_, ?_⟩ <;> with_reducible rfl)
  case c27 => (intro w' hw'; exact (l3.out w'))
  (try simp only [Act.put, List.setIfInBounds_toArray, List.set_cons_zero, List.set_cons_succ])
  refine De.Det.base ?_
  refine De.Det2.new (o := ?o28) 27 35 _ ?q28 (by kernel_rfl) (by kernel_rfl) ?k28 ?l28 zero_pt (fun g9 hn_g9 => ?_)
  case q28 => (simp only [List.getElem?_toArray, List.getElem?_cons_succ, List.getElem?_cons_zero]; rfl)
  case k28 => rfl
  case l28 => rfl
  clear hn_g9
  (try simp only [Act.put, List.setIfInBounds_toArray, List.set_cons_zero, List.set_cons_succ])
  refine De.Det2.new (o := ?o29) 28 35 _ ?q29 (by kernel_rfl) (by kernel_rfl) ?k29 ?l29 zero_pt (fun g10 hn_g10 => ?_)
  case q29 => (simp only [List.getElem?_toArray, List.getElem?_cons_succ, List.getElem?_cons_zero]; rfl)
  case k29 => rfl
  case l29 => rfl
  obtain ⟨ne_g10_g9, hn_g10⟩ := De.Own.of_none hn_g10
  have ne_g9_g10 := Ne.symm ne_g10_g9
  clear hn_g10
  (try simp only [Act.put, List.setIfInBounds_toArray, List.set_cons_zero, List.set_cons_succ])
  refine De.Det2.new (o := ?o30) 29 35 _ ?q30 (by kernel_rfl) (by kernel_rfl) ?k30 ?l30 zero_pt (fun g11 hn_g11 => ?_)
  case q30 => (simp only [List.getElem?_toArray, List.getElem?_cons_succ, List.getElem?_cons_zero]; rfl)
  case k30 => rfl
  case l30 => rfl
  obtain ⟨ne_g11_g10, hn_g11⟩ := De.Own.of_none hn_g11
  have ne_g10_g11 := Ne.symm ne_g11_g10
  obtain ⟨ne_g11_g9, hn_g11⟩ := De.Own.of_none hn_g11
  have ne_g9_g11 := Ne.symm ne_g11_g9
  clear hn_g11
  (try simp only [Act.put, List.setIfInBounds_toArray, List.set_cons_zero, List.set_cons_succ])
  refine De.Det2.lay (o := ?o31) 30 35 ?xx31 ?yy31 g9 35 #[.int .i64 0, .int .i64 0] #[.int .i64 T1, .int .i64 T2] ?q31 (by kernel_rfl) (by kernel_rfl) ?k31 ?l31 ?x31 ?z31 ?j31 ?i31 ?s31 ?b31 ?h31
  case q31 => (simp only [List.getElem?_toArray, List.getElem?_cons_succ, List.getElem?_cons_zero]; rfl)
  case k31 => rfl
  case l31 => rfl
  case x31 => rfl
  case z31 => rfl
  case j31 => (simp [De.Own.put, *])
  case i31 => kernel_rfl
  case s31 => rfl
  case b31 => (simp [Value.oneCell'])
  (try simp only [Act.put, List.setIfInBounds_toArray, List.set_cons_zero, List.set_cons_succ])
  refine De.Det2.lay (o := ?o32) 31 35 ?xx32 ?yy32 g10 35 #[.int .i64 0, .int .i64 0] #[.int .i64 V1, .int .i64 V2] ?q32 (by kernel_rfl) (by kernel_rfl) ?k32 ?l32 ?x32 ?z32 ?j32 ?i32 ?s32 ?b32 ?h32
  case q32 => (simp only [List.getElem?_toArray, List.getElem?_cons_succ, List.getElem?_cons_zero]; rfl)
  case k32 => rfl
  case l32 => rfl
  case x32 => rfl
  case z32 => rfl
  case j32 => (simp [De.Own.put, *])
  case i32 => kernel_rfl
  case s32 => rfl
  case b32 => (simp [Value.oneCell'])
  (try simp only [Act.put, List.setIfInBounds_toArray, List.set_cons_zero, List.set_cons_succ])
  refine De.Det2.lay (o := ?o33) 32 35 ?xx33 ?yy33 g11 35 #[.int .i64 0, .int .i64 0] #[.int .i64 N1, .int .i64 N2] ?q33 (by kernel_rfl) (by kernel_rfl) ?k33 ?l33 ?x33 ?z33 ?j33 ?i33 ?s33 ?b33 ?h33
  case q33 => (simp only [List.getElem?_toArray, List.getElem?_cons_succ, List.getElem?_cons_zero]; rfl)
  case k33 => rfl
  case l33 => rfl
  case x33 => rfl
  case z33 => rfl
  case j33 => (simp [De.Own.put, *])
  case i33 => kernel_rfl
  case s33 => rfl
  case b33 => (simp [Value.oneCell'])
  (try simp only [Act.put, List.setIfInBounds_toArray, List.set_cons_zero, List.set_cons_succ])
  refine De.Det2.done (by kernel_rfl) ?_
  rintro w3 ⟨hb_w3, hO_w3⟩
  obtain ⟨hge_g9, hB_g9⟩ := hO_w3 g9 true 35 #[.int .i64 T1, .int .i64 T2] (by simp [De.Own.put, *])
  obtain ⟨hge_g10, hB_g10⟩ := hO_w3 g10 true 35 #[.int .i64 V1, .int .i64 V2] (by simp [De.Own.put, *])
  obtain ⟨hge_g11, hB_g11⟩ := hO_w3 g11 true 35 #[.int .i64 N1, .int .i64 N2] (by simp [De.Own.put, *])
  clear hO_w3
  clear hw1 hw2 hC l1 l2 l3 hatp hatn
  have hb3 := drew_up hb_w3
  clear hb_w3
  go_upto_if 65 with (go_at_call 31; (with_reducible refine (harea.out _ hb3).mono ?_); rintro e w4 ⟨rfl, hb4⟩; (have hbb4 := hb3.trans (hb4.mono hb3.size)); (have hG9 := hB_g9.callee hb4); (have hG10 := hB_g10.callee hb4); (have hG11 := hB_g11.callee hb4))
  obtain ⟨X, hX⟩ : ∃ p : Pt, (if z < 0 then (V1, V2) else (N1, N2)) = p := ⟨_, rfl⟩
  obtain ⟨Y, hY⟩ : ∃ p : Pt, (if z < 0 then (N1, N2) else (V1, V2)) = p := ⟨_, rfl⟩
  have hOp : openB X Y (T1, T2) = (if z < 0 then openB (V1, V2) (N1, N2) (T1, T2) else openB (N1, N2) (V1, V2) (T1, T2)) := by
    rw [← hX, ← hY]
    by_cases h : z < 0
    · rw [if_pos h, if_pos h, if_pos h]
    · rw [if_neg h, if_neg h, if_neg h]
  rw [← hOp] at HCUT
  clear hOp
  have qX : Sm 24 X := by rw [← hX]; split <;> assumption
  have qY : Sm 24 Y := by rw [← hY]; split <;> assumption
  have HX := Lib.hid hX
  have HY := Lib.hid hY
  clear hX hY
  go_cut [65, 66] from 65 to 67 (fun _ _ wx => Blk wx g9 35 #[.int .i64 T1, .int .i64 T2] ∧ Blk wx g10 35 #[.int .i64 Y.1, .int .i64 Y.2] ∧ Blk wx g11 35 #[.int .i64 X.1, .int .i64 X.2] ∧ Below w.heap.size w wx)
  case first =>
    by_cases hz : z < 0
    · have e1 := HX.out
      have e2 := HY.out
      rw [if_pos hz] at e1 e2
      subst e1 e2
      have c1 : w4.cell? ⟨g11, 0, none⟩ = some (.int .i64 N1) := hG11.cell 0
      have c2 : w4.cell? ⟨g11, 1, none⟩ = some (.int .i64 N2) := hG11.cell 1
      have c3 : w4.cell? ⟨g10, 0, none⟩ = some (.int .i64 V1) := hG10.cell 0
      have c4 : w4.cell? ⟨g10, 1, none⟩ = some (.int .i64 V2) := hG10.cell 1
      go_wp2_with (first
        | (with_reducible show wpList _ _ _ (⟨_, .store 35 (.tmp 10) _, _, _, _, _⟩ :: _) _ _
           refine wpList_store_blk rfl 35 _ _ rfl g10 #[.int .i64 N1, .int .i64 N2] rfl rfl 35 _ hG10 info_pt rfl (by simp [Value.oneCell']) ?_
           intro w5 hG10' hgr5
           have hbb5 := below_some hbb4 hgr5 hbb4.size hge_g10
           have hG95 := hG9.some_ hgr5 ne_g9_g10
           have hG115 := hG11.some_ hgr5 ne_g11_g10)
        | (with_reducible show wpList _ _ _ (⟨_, .store 35 (.tmp 11) _, _, _, _, _⟩ :: _) _ _
           refine wpList_store_blk rfl 35 _ _ rfl g11 #[.int .i64 V1, .int .i64 V2] rfl rfl 35 _ hG115 info_pt rfl (by simp [Value.oneCell']) ?_
           intro w6 hG11' hgr6
           have hbb6 := below_some hbb5 hgr6 hbb5.size hge_g11
           have hG96 := hG95.some_ hgr6 ne_g9_g11
           have hG106 := hG10'.some_ hgr6 ne_g10_g11))
      go_meet
      exact ⟨hG96, hG106, hG11', hbb6⟩
    · have e1 := HX.out
      have e2 := HY.out
      rw [if_neg hz] at e1 e2
      subst e1 e2
      go_wp2_with (fail)
      go_meet
      exact ⟨hG9, hG10, hG11, hbb4⟩
  case rest =>
  clear hG9 hG10 hG11 hbb4 hB_g9 hB_g10 hB_g11 hb3 hb4 harea
  obtain ⟨hT, hY, hX, hbc⟩ := hcut
  generalize u65 = j65
  generalize u66 = j66
  generalize u67 = j67
  have m1 := Lib.hid (fun w' => times_ok X (T1, T2) (qX.up (by decide)) (q1.up (by decide)) w')
  have m2 := Lib.hid (fun w' => times_ok (T1, T2) Y (q1.up (by decide)) (qY.up (by decide)) w')
  have m3 := Lib.hid (fun w' => times_ok X Y (qX.up (by decide)) (qY.up (by decide)) w')
  obtain ⟨OP, hOP⟩ : ∃ q, openB X Y (T1, T2) = q := ⟨_, rfl⟩
  rw [hOP] at HCUT
  unfold openB at hOP
  obtain ⟨t1, ht1⟩ : ∃ z, times X (T1, T2) = z := ⟨_, rfl⟩
  obtain ⟨t2, ht2⟩ : ∃ z, times (T1, T2) Y = z := ⟨_, rfl⟩
  obtain ⟨t3, ht3⟩ : ∃ z, times X Y = z := ⟨_, rfl⟩
  rw [ht1] at m1 hOP
  rw [ht2] at m2 hOP
  rw [ht3] at m3 hOP
  replace hOP := Lib.hid hOP
  clear ht1 ht2 ht3 HX HY qX qY q1 q2 q3
  obtain ⟨X1, X2⟩ := X
  obtain ⟨Y1, Y2⟩ := Y
  simp only [] at hX hY
  have x1 : wc.cell? ⟨g11, 0, none⟩ = some (.int .i64 X1) := hX.cell 0
  have x2 : wc.cell? ⟨g11, 1, none⟩ = some (.int .i64 X2) := hX.cell 1
  have y1 : wc.cell? ⟨g10, 0, none⟩ = some (.int .i64 Y1) := hY.cell 0
  have y2 : wc.cell? ⟨g10, 1, none⟩ = some (.int .i64 Y2) := hY.cell 1
  have z1 : wc.cell? ⟨g9, 0, none⟩ = some (.int .i64 T1) := hT.cell 0
  have z2 : wc.cell? ⟨g9, 1, none⟩ = some (.int .i64 T2) := hT.cell 1
  obtain ⟨Q0, hQ0⟩ : ∃ q, (decide (0 < t1) && decide (0 < t2)) = q := ⟨_, rfl⟩
  have HQ0 := Lib.hid hQ0
  clear hQ0
  go_upto_region 8 with (fail)
  go_cut [12] from 68 to 77 (fun v wx => v = .bool Q0 ∧ Blk wx g9 35 #[.int .i64 T1, .int .i64 T2] ∧ Blk wx g10 35 #[.int .i64 Y1, .int .i64 Y2] ∧ Blk wx g11 35 #[.int .i64 X1, .int .i64 X2] ∧ Below w.heap.size w wx)
  case first =>
    rcases (show 0 < t1 ∨ t1 ≤ 0 by omega) with h1 | h1 <;> rcases (show 0 < t2 ∨ t2 ≤ 0 by omega) with h2 | h2
    · have hXc := hX
      have hYc := hY
      have hTc := hT
      have hBc := hbc
      have _k1 := h1
      have _k2 := h1
      go_wp2_with (first
      | (go_at_call 30; clear _k1; (with_reducible refine (m1.out _).mono ?_); rintro e k1 ⟨rfl, hb_k1⟩
         have hXk1 := hXc.callee hb_k1
         have hYk1 := hYc.callee hb_k1
         have hTk1 := hTc.callee hb_k1
         have hBk1 := hBc.trans (hb_k1.mono hBc.size)
         have cX0k1 : k1.cell? ⟨g11, 0, none⟩ = some (.int .i64 X1) := hXk1.cell 0
         have cX1k1 : k1.cell? ⟨g11, 1, none⟩ = some (.int .i64 X2) := hXk1.cell 1
         have cY0k1 : k1.cell? ⟨g10, 0, none⟩ = some (.int .i64 Y1) := hYk1.cell 0
         have cY1k1 : k1.cell? ⟨g10, 1, none⟩ = some (.int .i64 Y2) := hYk1.cell 1
         have cT0k1 : k1.cell? ⟨g9, 0, none⟩ = some (.int .i64 T1) := hTk1.cell 0
         have cT1k1 : k1.cell? ⟨g9, 1, none⟩ = some (.int .i64 T2) := hTk1.cell 1)
      | (go_at_call 30; clear _k2; (with_reducible refine (m2.out _).mono ?_); rintro e k2 ⟨rfl, hb_k2⟩
         have hXk2 := hXk1.callee hb_k2
         have hYk2 := hYk1.callee hb_k2
         have hTk2 := hTk1.callee hb_k2
         have hBk2 := hBk1.trans (hb_k2.mono hBk1.size)
         have cX0k2 : k2.cell? ⟨g11, 0, none⟩ = some (.int .i64 X1) := hXk2.cell 0
         have cX1k2 : k2.cell? ⟨g11, 1, none⟩ = some (.int .i64 X2) := hXk2.cell 1
         have cY0k2 : k2.cell? ⟨g10, 0, none⟩ = some (.int .i64 Y1) := hYk2.cell 0
         have cY1k2 : k2.cell? ⟨g10, 1, none⟩ = some (.int .i64 Y2) := hYk2.cell 1
         have cT0k2 : k2.cell? ⟨g9, 0, none⟩ = some (.int .i64 T1) := hTk2.cell 0
         have cT1k2 : k2.cell? ⟨g9, 1, none⟩ = some (.int .i64 T2) := hTk2.cell 1))
      go_meet
      exact ⟨by rw [← HQ0.out]; simp [h1, h2], hTk2, hYk2, hXk2, hBk2⟩
    · have hXc := hX
      have hYc := hY
      have hTc := hT
      have hBc := hbc
      have _k1 := h1
      have _k2 := h1
      go_wp2_with (first
      | (go_at_call 30; clear _k1; (with_reducible refine (m1.out _).mono ?_); rintro e k1 ⟨rfl, hb_k1⟩
         have hXk1 := hXc.callee hb_k1
         have hYk1 := hYc.callee hb_k1
         have hTk1 := hTc.callee hb_k1
         have hBk1 := hBc.trans (hb_k1.mono hBc.size)
         have cX0k1 : k1.cell? ⟨g11, 0, none⟩ = some (.int .i64 X1) := hXk1.cell 0
         have cX1k1 : k1.cell? ⟨g11, 1, none⟩ = some (.int .i64 X2) := hXk1.cell 1
         have cY0k1 : k1.cell? ⟨g10, 0, none⟩ = some (.int .i64 Y1) := hYk1.cell 0
         have cY1k1 : k1.cell? ⟨g10, 1, none⟩ = some (.int .i64 Y2) := hYk1.cell 1
         have cT0k1 : k1.cell? ⟨g9, 0, none⟩ = some (.int .i64 T1) := hTk1.cell 0
         have cT1k1 : k1.cell? ⟨g9, 1, none⟩ = some (.int .i64 T2) := hTk1.cell 1)
      | (go_at_call 30; clear _k2; (with_reducible refine (m2.out _).mono ?_); rintro e k2 ⟨rfl, hb_k2⟩
         have hXk2 := hXk1.callee hb_k2
         have hYk2 := hYk1.callee hb_k2
         have hTk2 := hTk1.callee hb_k2
         have hBk2 := hBk1.trans (hb_k2.mono hBk1.size)
         have cX0k2 : k2.cell? ⟨g11, 0, none⟩ = some (.int .i64 X1) := hXk2.cell 0
         have cX1k2 : k2.cell? ⟨g11, 1, none⟩ = some (.int .i64 X2) := hXk2.cell 1
         have cY0k2 : k2.cell? ⟨g10, 0, none⟩ = some (.int .i64 Y1) := hYk2.cell 0
         have cY1k2 : k2.cell? ⟨g10, 1, none⟩ = some (.int .i64 Y2) := hYk2.cell 1
         have cT0k2 : k2.cell? ⟨g9, 0, none⟩ = some (.int .i64 T1) := hTk2.cell 0
         have cT1k2 : k2.cell? ⟨g9, 1, none⟩ = some (.int .i64 T2) := hTk2.cell 1))
      go_meet
      exact ⟨by rw [← HQ0.out]; simp [h1, h2], hTk2, hYk2, hXk2, hBk2⟩
    · have hXc := hX
      have hYc := hY
      have hTc := hT
      have hBc := hbc
      have _k1 := h1
      go_wp2_with (first
      | (go_at_call 30; clear _k1; (with_reducible refine (m1.out _).mono ?_); rintro e k1 ⟨rfl, hb_k1⟩
         have hXk1 := hXc.callee hb_k1
         have hYk1 := hYc.callee hb_k1
         have hTk1 := hTc.callee hb_k1
         have hBk1 := hBc.trans (hb_k1.mono hBc.size)
         have cX0k1 : k1.cell? ⟨g11, 0, none⟩ = some (.int .i64 X1) := hXk1.cell 0
         have cX1k1 : k1.cell? ⟨g11, 1, none⟩ = some (.int .i64 X2) := hXk1.cell 1
         have cY0k1 : k1.cell? ⟨g10, 0, none⟩ = some (.int .i64 Y1) := hYk1.cell 0
         have cY1k1 : k1.cell? ⟨g10, 1, none⟩ = some (.int .i64 Y2) := hYk1.cell 1
         have cT0k1 : k1.cell? ⟨g9, 0, none⟩ = some (.int .i64 T1) := hTk1.cell 0
         have cT1k1 : k1.cell? ⟨g9, 1, none⟩ = some (.int .i64 T2) := hTk1.cell 1))
      go_meet
      exact ⟨by rw [← HQ0.out]; simp [h1, h2], hTk1, hYk1, hXk1, hBk1⟩
    · have hXc := hX
      have hYc := hY
      have hTc := hT
      have hBc := hbc
      have _k1 := h1
      go_wp2_with (first
      | (go_at_call 30; clear _k1; (with_reducible refine (m1.out _).mono ?_); rintro e k1 ⟨rfl, hb_k1⟩
         have hXk1 := hXc.callee hb_k1
         have hYk1 := hYc.callee hb_k1
         have hTk1 := hTc.callee hb_k1
         have hBk1 := hBc.trans (hb_k1.mono hBc.size)
         have cX0k1 : k1.cell? ⟨g11, 0, none⟩ = some (.int .i64 X1) := hXk1.cell 0
         have cX1k1 : k1.cell? ⟨g11, 1, none⟩ = some (.int .i64 X2) := hXk1.cell 1
         have cY0k1 : k1.cell? ⟨g10, 0, none⟩ = some (.int .i64 Y1) := hYk1.cell 0
         have cY1k1 : k1.cell? ⟨g10, 1, none⟩ = some (.int .i64 Y2) := hYk1.cell 1
         have cT0k1 : k1.cell? ⟨g9, 0, none⟩ = some (.int .i64 T1) := hTk1.cell 0
         have cT1k1 : k1.cell? ⟨g9, 1, none⟩ = some (.int .i64 T2) := hTk1.cell 1))
      go_meet
      exact ⟨by rw [← HQ0.out]; simp [h1, h2], hTk1, hYk1, hXk1, hBk1⟩
  case rest =>
  clear x1 x2 y1 y2 z1 z2 hT hX hY hbc
  obtain ⟨rfl, hT, hY, hX, hbc⟩ := hcut
  obtain ⟨wd, hwd⟩ : ∃ x, x = wc := ⟨_, rfl⟩
  subst hwd
  have x1 : wd.cell? ⟨g11, 0, none⟩ = some (.int .i64 X1) := hX.cell 0
  have x2 : wd.cell? ⟨g11, 1, none⟩ = some (.int .i64 X2) := hX.cell 1
  have y1 : wd.cell? ⟨g10, 0, none⟩ = some (.int .i64 Y1) := hY.cell 0
  have y2 : wd.cell? ⟨g10, 1, none⟩ = some (.int .i64 Y2) := hY.cell 1
  have hXc := hX
  have hYc := hY
  have hTc := hT
  have hBc := hbc
  go_upto_if 81 with (first
      | (go_at_call 30; (with_reducible refine (m3.out _).mono ?_); rintro e k0 ⟨rfl, hb_k0⟩
         have hXk0 := hXc.callee hb_k0
         have hYk0 := hYc.callee hb_k0
         have hTk0 := hTc.callee hb_k0
         have hBk0 := hBc.trans (hb_k0.mono hBc.size)
         have cX0k0 : k0.cell? ⟨g11, 0, none⟩ = some (.int .i64 X1) := hXk0.cell 0
         have cX1k0 : k0.cell? ⟨g11, 1, none⟩ = some (.int .i64 X2) := hXk0.cell 1
         have cY0k0 : k0.cell? ⟨g10, 0, none⟩ = some (.int .i64 Y1) := hYk0.cell 0
         have cY1k0 : k0.cell? ⟨g10, 1, none⟩ = some (.int .i64 Y2) := hYk0.cell 1
         have cT0k0 : k0.cell? ⟨g9, 0, none⟩ = some (.int .i64 T1) := hTk0.cell 0
         have cT1k0 : k0.cell? ⟨g9, 1, none⟩ = some (.int .i64 T2) := hTk0.cell 1))
  clear hXc hYc hTc hBc
  clear x1 x2 y1 y2 hT hX hY hbc
  go_cut [12, 81] from 81 to 91 (fun v _ wx => v = .bool OP ∧ Below w.heap.size w wx)
  case first =>
    rcases (show 0 < t1 ∨ t1 ≤ 0 by omega) with h1 | h1 <;> rcases (show 0 < t2 ∨ t2 ≤ 0 by omega) with h2 | h2 <;> rcases (show t3 ≤ 0 ∨ 0 < t3 by omega) with h3 | h3
    · have hn3 : decide (t3 ≤ 0) = true := decide_eq_true h3
      have _k1 := h1
      go_wp2_with (first
      | (go_at_call 30; clear _k1; (with_reducible refine (m1.out _).mono ?_); rintro e k1 ⟨rfl, hb_k1⟩
         have hXk1 := hXk0.callee hb_k1
         have hYk1 := hYk0.callee hb_k1
         have hTk1 := hTk0.callee hb_k1
         have hBk1 := hBk0.trans (hb_k1.mono hBk0.size)
         have cX0k1 : k1.cell? ⟨g11, 0, none⟩ = some (.int .i64 X1) := hXk1.cell 0
         have cX1k1 : k1.cell? ⟨g11, 1, none⟩ = some (.int .i64 X2) := hXk1.cell 1
         have cY0k1 : k1.cell? ⟨g10, 0, none⟩ = some (.int .i64 Y1) := hYk1.cell 0
         have cY1k1 : k1.cell? ⟨g10, 1, none⟩ = some (.int .i64 Y2) := hYk1.cell 1
         have cT0k1 : k1.cell? ⟨g9, 0, none⟩ = some (.int .i64 T1) := hTk1.cell 0
         have cT1k1 : k1.cell? ⟨g9, 1, none⟩ = some (.int .i64 T2) := hTk1.cell 1))
      go_meet
      exact ⟨by rw [← hOP.out]; simp [h1, h2, h3, ← HQ0.out], hBk1⟩
    · have hn3 : decide (t3 ≤ 0) = false := decide_eq_false (by omega)
      go_wp2_with (fail)
      go_meet
      have h3n : ¬ t3 ≤ 0 := by omega
      exact ⟨by rw [← hOP.out]; simp [h1, h2, h3n, ← HQ0.out], hBk0⟩
    · have hn3 : decide (t3 ≤ 0) = true := decide_eq_true h3
      have _k1 := h1
      go_wp2_with (first
      | (go_at_call 30; clear _k1; (with_reducible refine (m1.out _).mono ?_); rintro e k1 ⟨rfl, hb_k1⟩
         have hXk1 := hXk0.callee hb_k1
         have hYk1 := hYk0.callee hb_k1
         have hTk1 := hTk0.callee hb_k1
         have hBk1 := hBk0.trans (hb_k1.mono hBk0.size)
         have cX0k1 : k1.cell? ⟨g11, 0, none⟩ = some (.int .i64 X1) := hXk1.cell 0
         have cX1k1 : k1.cell? ⟨g11, 1, none⟩ = some (.int .i64 X2) := hXk1.cell 1
         have cY0k1 : k1.cell? ⟨g10, 0, none⟩ = some (.int .i64 Y1) := hYk1.cell 0
         have cY1k1 : k1.cell? ⟨g10, 1, none⟩ = some (.int .i64 Y2) := hYk1.cell 1
         have cT0k1 : k1.cell? ⟨g9, 0, none⟩ = some (.int .i64 T1) := hTk1.cell 0
         have cT1k1 : k1.cell? ⟨g9, 1, none⟩ = some (.int .i64 T2) := hTk1.cell 1))
      go_meet
      exact ⟨by rw [← hOP.out]; simp [h1, h2, h3, ← HQ0.out], hBk1⟩
    · have hn3 : decide (t3 ≤ 0) = false := decide_eq_false (by omega)
      go_wp2_with (fail)
      go_meet
      have h3n : ¬ t3 ≤ 0 := by omega
      exact ⟨by rw [← hOP.out]; simp [h1, h2, h3n, ← HQ0.out], hBk0⟩
    · have hn3 : decide (t3 ≤ 0) = true := decide_eq_true h3
      have _k1 := h1
      have _k2 := h1
      go_wp2_with (first
      | (go_at_call 30; clear _k1; (with_reducible refine (m1.out _).mono ?_); rintro e k1 ⟨rfl, hb_k1⟩
         have hXk1 := hXk0.callee hb_k1
         have hYk1 := hYk0.callee hb_k1
         have hTk1 := hTk0.callee hb_k1
         have hBk1 := hBk0.trans (hb_k1.mono hBk0.size)
         have cX0k1 : k1.cell? ⟨g11, 0, none⟩ = some (.int .i64 X1) := hXk1.cell 0
         have cX1k1 : k1.cell? ⟨g11, 1, none⟩ = some (.int .i64 X2) := hXk1.cell 1
         have cY0k1 : k1.cell? ⟨g10, 0, none⟩ = some (.int .i64 Y1) := hYk1.cell 0
         have cY1k1 : k1.cell? ⟨g10, 1, none⟩ = some (.int .i64 Y2) := hYk1.cell 1
         have cT0k1 : k1.cell? ⟨g9, 0, none⟩ = some (.int .i64 T1) := hTk1.cell 0
         have cT1k1 : k1.cell? ⟨g9, 1, none⟩ = some (.int .i64 T2) := hTk1.cell 1)
      | (go_at_call 30; clear _k2; (with_reducible refine (m2.out _).mono ?_); rintro e k2 ⟨rfl, hb_k2⟩
         have hXk2 := hXk1.callee hb_k2
         have hYk2 := hYk1.callee hb_k2
         have hTk2 := hTk1.callee hb_k2
         have hBk2 := hBk1.trans (hb_k2.mono hBk1.size)
         have cX0k2 : k2.cell? ⟨g11, 0, none⟩ = some (.int .i64 X1) := hXk2.cell 0
         have cX1k2 : k2.cell? ⟨g11, 1, none⟩ = some (.int .i64 X2) := hXk2.cell 1
         have cY0k2 : k2.cell? ⟨g10, 0, none⟩ = some (.int .i64 Y1) := hYk2.cell 0
         have cY1k2 : k2.cell? ⟨g10, 1, none⟩ = some (.int .i64 Y2) := hYk2.cell 1
         have cT0k2 : k2.cell? ⟨g9, 0, none⟩ = some (.int .i64 T1) := hTk2.cell 0
         have cT1k2 : k2.cell? ⟨g9, 1, none⟩ = some (.int .i64 T2) := hTk2.cell 1))
      go_meet
      exact ⟨by rw [← hOP.out]; simp [h1, h2, h3, ← HQ0.out], hBk2⟩
    · have hn3 : decide (t3 ≤ 0) = false := decide_eq_false (by omega)
      go_wp2_with (fail)
      go_meet
      have h3n : ¬ t3 ≤ 0 := by omega
      exact ⟨by rw [← hOP.out]; simp [h1, h2, h3n, ← HQ0.out], hBk0⟩
    · have hn3 : decide (t3 ≤ 0) = true := decide_eq_true h3
      have _k1 := h1
      have _k2 := h1
      go_wp2_with (first
      | (go_at_call 30; clear _k1; (with_reducible refine (m1.out _).mono ?_); rintro e k1 ⟨rfl, hb_k1⟩
         have hXk1 := hXk0.callee hb_k1
         have hYk1 := hYk0.callee hb_k1
         have hTk1 := hTk0.callee hb_k1
         have hBk1 := hBk0.trans (hb_k1.mono hBk0.size)
         have cX0k1 : k1.cell? ⟨g11, 0, none⟩ = some (.int .i64 X1) := hXk1.cell 0
         have cX1k1 : k1.cell? ⟨g11, 1, none⟩ = some (.int .i64 X2) := hXk1.cell 1
         have cY0k1 : k1.cell? ⟨g10, 0, none⟩ = some (.int .i64 Y1) := hYk1.cell 0
         have cY1k1 : k1.cell? ⟨g10, 1, none⟩ = some (.int .i64 Y2) := hYk1.cell 1
         have cT0k1 : k1.cell? ⟨g9, 0, none⟩ = some (.int .i64 T1) := hTk1.cell 0
         have cT1k1 : k1.cell? ⟨g9, 1, none⟩ = some (.int .i64 T2) := hTk1.cell 1)
      | (go_at_call 30; clear _k2; (with_reducible refine (m2.out _).mono ?_); rintro e k2 ⟨rfl, hb_k2⟩
         have hXk2 := hXk1.callee hb_k2
         have hYk2 := hYk1.callee hb_k2
         have hTk2 := hTk1.callee hb_k2
         have hBk2 := hBk1.trans (hb_k2.mono hBk1.size)
         have cX0k2 : k2.cell? ⟨g11, 0, none⟩ = some (.int .i64 X1) := hXk2.cell 0
         have cX1k2 : k2.cell? ⟨g11, 1, none⟩ = some (.int .i64 X2) := hXk2.cell 1
         have cY0k2 : k2.cell? ⟨g10, 0, none⟩ = some (.int .i64 Y1) := hYk2.cell 0
         have cY1k2 : k2.cell? ⟨g10, 1, none⟩ = some (.int .i64 Y2) := hYk2.cell 1
         have cT0k2 : k2.cell? ⟨g9, 0, none⟩ = some (.int .i64 T1) := hTk2.cell 0
         have cT1k2 : k2.cell? ⟨g9, 1, none⟩ = some (.int .i64 T2) := hTk2.cell 1))
      go_meet
      exact ⟨by rw [← hOP.out]; simp [h1, h2, h3, ← HQ0.out], hBk2⟩
    · have hn3 : decide (t3 ≤ 0) = false := decide_eq_false (by omega)
      go_wp2_with (fail)
      go_meet
      have h3n : ¬ t3 ≤ 0 := by omega
      exact ⟨by rw [← hOP.out]; simp [h1, h2, h3n, ← HQ0.out], hBk0⟩
  case rest =>
  obtain ⟨rfl, hbd⟩ := hcut
  clear hTk0 hXk0 hYk0 hBk0 m1 m2 m3 hOP
  cases OP with
  | false =>
    go_wp2_with (fail)
    go_ret
    exact ⟨ret_bool (by rw [HCUT.out]; rfl), hbd⟩
  | true =>
  obtain ⟨we, hwe⟩ : ∃ x, x = wc := ⟨_, rfl⟩
  subst hwe
  go_wp2_with (fail)
  have hC : Hid (∀ w', Below we.drew.heap.size we.drew w' → w'.cell? ⟨g, a * 2, none⟩ = some (.int .i64 a1) ∧ w'.cell? ⟨g, a * 2 + 1, none⟩ = some (.int .i64 a2) ∧ w'.cell? ⟨g, b * 2, none⟩ = some (.int .i64 b1) ∧ w'.cell? ⟨g, b * 2 + 1, none⟩ = some (.int .i64 b2)) := fun w' hw =>
    have hx := hbd.trans ((drew_up hw).mono hbd.size)
    ⟨(hca.out w' hx).1, (hca.out w' hx).2, (hcb.out w' hx).1, (hcb.out w' hx).2⟩
  refine De.region_det (by kernel_rfl) (by kernel_rfl) ?_
  refine De.Det.read (o := ?o34) (v := ?v34) 0 ?q34 (by kernel_rfl) (by kernel_rfl) ?w34 ?y34 ?h34
  case q34 => (simp only [List.getElem?_toArray, List.getElem?_cons_succ, List.getElem?_cons_zero]; rfl)
  case w34 => kernel_rfl
  case y34 => (intro w' hw'; obtain ⟨c1, c2, c3, c4⟩ := hC.out w' hw'; go_simp; (try with_reducible rfl))
  (try simp only [Act.put, List.setIfInBounds_toArray, List.set_cons_zero, List.set_cons_succ])
  refine De.Det.read (o := ?o35) (v := ?v35) 1 ?q35 (by kernel_rfl) (by kernel_rfl) ?w35 ?y35 ?h35
  case q35 => (simp only [List.getElem?_toArray, List.getElem?_cons_succ, List.getElem?_cons_zero]; rfl)
  case w35 => kernel_rfl
  case y35 => (intro w' hw'; obtain ⟨c1, c2, c3, c4⟩ := hC.out w' hw'; go_simp; (try with_reducible rfl))
  (try simp only [Act.put, List.setIfInBounds_toArray, List.set_cons_zero, List.set_cons_succ])
  refine De.Det.read (o := ?o36) (v := ?v36) 2 ?q36 (by kernel_rfl) (by kernel_rfl) ?w36 ?y36 ?h36
  case q36 => (simp only [List.getElem?_toArray, List.getElem?_cons_succ, List.getElem?_cons_zero]; rfl)
  case w36 => kernel_rfl
  case y36 => (intro w' hw'; obtain ⟨c1, c2, c3, c4⟩ := hC.out w' hw'; go_simp; (try with_reducible rfl))
  (try simp only [Act.put, List.setIfInBounds_toArray, List.set_cons_zero, List.set_cons_succ])
  refine De.Det.read (o := ?o37) (v := ?v37) 3 ?q37 (by kernel_rfl) (by kernel_rfl) ?w37 ?y37 ?h37
  case q37 => (simp only [List.getElem?_toArray, List.getElem?_cons_succ, List.getElem?_cons_zero]; rfl)
  case w37 => kernel_rfl
  case y37 => (intro w' hw'; obtain ⟨c1, c2, c3, c4⟩ := hC.out w' hw'; go_simp; (try with_reducible rfl))
  (try simp only [Act.put, List.setIfInBounds_toArray, List.set_cons_zero, List.set_cons_succ])
  refine De.Det.read (o := ?o38) (v := ?v38) 4 ?q38 (by kernel_rfl) (by kernel_rfl) ?w38 ?y38 ?h38
  case q38 => (simp only [List.getElem?_toArray, List.getElem?_cons_succ, List.getElem?_cons_zero]; rfl)
  case w38 => kernel_rfl
  case y38 => (intro w' hw'; obtain ⟨c1, c2, c3, c4⟩ := hC.out w' hw'; go_simp; (try with_reducible rfl))
  (try simp only [Act.put, List.setIfInBounds_toArray, List.set_cons_zero, List.set_cons_succ])
  refine De.Det.read (o := ?o39) (v := ?v39) 5 ?q39 (by kernel_rfl) (by kernel_rfl) ?w39 ?y39 ?h39
  case q39 => (simp only [List.getElem?_toArray, List.getElem?_cons_succ, List.getElem?_cons_zero]; rfl)
  case w39 => kernel_rfl
  case y39 => (intro w' hw'; obtain ⟨c1, c2, c3, c4⟩ := hC.out w' hw'; go_simp; (try with_reducible rfl))
  (try simp only [Act.put, List.setIfInBounds_toArray, List.set_cons_zero, List.set_cons_succ])
  refine De.Det.read (o := ?o40) (v := ?v40) 6 ?q40 (by kernel_rfl) (by kernel_rfl) ?w40 ?y40 ?h40
  case q40 => (simp only [List.getElem?_toArray, List.getElem?_cons_succ, List.getElem?_cons_zero]; rfl)
  case w40 => kernel_rfl
  case y40 => (intro w' hw'; obtain ⟨c1, c2, c3, c4⟩ := hC.out w' hw'; go_simp; (try with_reducible rfl))
  (try simp only [Act.put, List.setIfInBounds_toArray, List.set_cons_zero, List.set_cons_succ])
  refine De.Det.read (o := ?o41) (v := ?v41) 7 ?q41 (by kernel_rfl) (by kernel_rfl) ?w41 ?y41 ?h41
  case q41 => (simp only [List.getElem?_toArray, List.getElem?_cons_succ, List.getElem?_cons_zero]; rfl)
  case w41 => kernel_rfl
  case y41 => (intro w' hw'; obtain ⟨c1, c2, c3, c4⟩ := hC.out w' hw'; go_simp; (try with_reducible rfl))
  (try simp only [Act.put, List.setIfInBounds_toArray, List.set_cons_zero, List.set_cons_succ])
  refine De.Det.read (o := ?o42) (v := ?v42) 8 ?q42 (by kernel_rfl) (by kernel_rfl) ?w42 ?y42 ?h42
  case q42 => (simp only [List.getElem?_toArray, List.getElem?_cons_succ, List.getElem?_cons_zero]; rfl)
  case w42 => kernel_rfl
  case y42 => (intro w' hw'; obtain ⟨c1, c2, c3, c4⟩ := hC.out w' hw'; go_simp; (try with_reducible rfl))
  (try simp only [Act.put, List.setIfInBounds_toArray, List.set_cons_zero, List.set_cons_succ])
  refine De.Det.base ?_
  refine De.Det2.new (o := ?o43) 9 52 _ ?q43 (by kernel_rfl) (by kernel_rfl) ?k43 ?l43 zero_side (fun g13 hn_g13 => ?_)
  case q43 => (simp only [List.getElem?_toArray, List.getElem?_cons_succ, List.getElem?_cons_zero]; rfl)
  case k43 => rfl
  case l43 => rfl
  clear hn_g13
  (try simp only [Act.put, List.setIfInBounds_toArray, List.set_cons_zero, List.set_cons_succ])
  refine De.Det2.lay (o := ?o44) 10 52 ?xx44 ?yy44 g13 52 #[.int .i64 0, .int .i64 0, .int .i64 0, .int .i64 0] #[.int .i64 a1, .int .i64 a2, .int .i64 b1, .int .i64 b2] ?q44 (by kernel_rfl) (by kernel_rfl) ?k44 ?l44 ?x44 ?z44 ?j44 ?i44 ?s44 ?b44 ?h44
  case q44 => (simp only [List.getElem?_toArray, List.getElem?_cons_succ, List.getElem?_cons_zero]; rfl)
  case k44 => rfl
  case l44 => rfl
  case x44 => rfl
  case z44 => rfl
  case j44 => (simp [De.Own.put, *])
  case i44 => kernel_rfl
  case s44 => rfl
  case b44 => (simp [Value.oneCell'])
  (try simp only [Act.put, List.setIfInBounds_toArray, List.set_cons_zero, List.set_cons_succ])
  refine De.Det2.done (by kernel_rfl) ?_
  rintro wf ⟨hb_wf, hO_wf⟩
  obtain ⟨hge_g13, hB_g13⟩ := hO_wf g13 true 52 #[.int .i64 a1, .int .i64 a2, .int .i64 b1, .int .i64 b2] (by simp [De.Own.put, *])
  clear hO_wf
  clear hC
  have hbf := hbd.trans ((drew_up hb_wf).mono hbd.size)
  clear hb_wf hbd
  go_wp2_with (fail)
  go_loopw [105] (fun v wr => ∃ i : Nat, i ≤ n ∧ v = .int .i64 i ∧ (∀ k, k < i → lineOk (a1, a2) (b1, b2) (at' o k) (at' o (k + 1)) = true) ∧ Below wf.heap.size wf wr) (fun v _ => n - (intOf v).toNat)
  case atStart => exact ⟨0, by omega, rfl, fun k hk => absurd hk (by omega), Below.refl _ _⟩
  case round =>
    obtain ⟨i, hi, rfl, hall, hbr⟩ := hrel
    obtain ⟨wg, rfl⟩ : ∃ x, x = wr := ⟨wr, rfl⟩
    have hal := Lib.hid hall
    clear hall
    have hbw := hbf.trans (hbr.mono hbf.size)
    have hGl := hB_g13.callee hbr
    by_cases hlt : i < n
    · have hlti : (i : Int) < n := by omega
      have hbad : Hid (lineOk (a1, a2) (b1, b2) (at' o i) (at' o (i + 1)) = false → CC = false) := fun h => by
        rw [HCUT.out, all_bad (f := fun i => lineOk (a1, a2) (b1, b2) (at' o i) (at' o (i + 1))) hlt h, Bool.and_false]
      have hgo : Hid (lineOk (a1, a2) (b1, b2) (at' o i) (at' o (i + 1)) = true → ∀ k, k < i + 1 → lineOk (a1, a2) (b1, b2) (at' o k) (at' o (k + 1)) = true) := fun h k hk => by
        rcases Nat.lt_or_ge k i with h' | h'
        · exact hal.out k h'
        · obtain rfl : k = i := by omega
          exact h
      clear hal
      have sd := Lib.hid (fun w' hb' => hside.out w' hb' i (by omega))
      have pP := hsm.out i
      have pQ := hsm.out (i + 1)
      obtain ⟨P0, hP0⟩ : ∃ p, at' o i = p := ⟨_, rfl⟩
      obtain ⟨P1, hP1⟩ : ∃ p, at' o (i + 1) = p := ⟨_, rfl⟩
      rw [hP0, hP1] at sd hbad
      have hgo2 : Hid (lineOk (a1, a2) (b1, b2) P0 P1 = true → ∀ k, k < i + 1 → lineOk (a1, a2) (b1, b2) (at' o k) (at' o (k + 1)) = true) := fun h => hgo.out (by rw [hP0, hP1]; exact h)
      rw [hP0] at pP
      rw [hP1] at pQ
      clear hP0 hP1 hgo
      have mt := Lib.hid (fun w' => meets_ok (a1, a2) (b1, b2) P0 P1 pA pB pP pQ w')
      have hs0 := Lib.hid (fun w' => has_ok (a1, a2) (b1, b2) P0 pA pB pP w')
      have hs1 := Lib.hid (fun w' => has_ok (a1, a2) (b1, b2) P1 pA pB pQ w')
      obtain ⟨L, hL⟩ : ∃ L, lineOk (a1, a2) (b1, b2) P0 P1 = L := ⟨_, rfl⟩
      rw [hL] at hbad hgo2
      unfold lineOk at hL
      obtain ⟨M, hM⟩ : ∃ M, meetsS (a1, a2) (b1, b2) P0 P1 = M := ⟨_, rfl⟩
      rw [hM] at mt hL
      obtain ⟨y0, hy0⟩ : ∃ M, hasS (a1, a2) (b1, b2) P0 = M := ⟨_, rfl⟩
      obtain ⟨y1, hy1⟩ : ∃ M, hasS (a1, a2) (b1, b2) P1 = M := ⟨_, rfl⟩
      rw [hy0] at hs0 hL
      rw [hy1] at hs1 hL
      clear hM hy0 hy1 pP pQ
      have G1 := eq_pt P0 (a1, a2)
      have G2 := eq_pt P0 (b1, b2)
      have G3 := eq_pt P1 (a1, a2)
      have G4 := eq_pt P1 (b1, b2)
      have F1 : decide (P0 = (a1, a2)) = !decide (P0 ≠ (a1, a2)) := by simp
      have F2 : decide (P0 = (b1, b2)) = !decide (P0 ≠ (b1, b2)) := by simp
      have F3 : decide (P1 = (a1, a2)) = !decide (P1 ≠ (a1, a2)) := by simp
      have F4 : decide (P1 = (b1, b2)) = !decide (P1 ≠ (b1, b2)) := by simp
      rw [F1] at G1
      rw [F2] at G2
      rw [F3] at G3
      rw [F4] at G4
      obtain ⟨d1, hd1⟩ : ∃ d, decide (P0 ≠ (a1, a2)) = d := ⟨_, rfl⟩
      obtain ⟨d2, hd2⟩ : ∃ d, decide (P0 ≠ (b1, b2)) = d := ⟨_, rfl⟩
      obtain ⟨d3, hd3⟩ : ∃ d, decide (P1 ≠ (a1, a2)) = d := ⟨_, rfl⟩
      obtain ⟨d4, hd4⟩ : ∃ d, decide (P1 ≠ (b1, b2)) = d := ⟨_, rfl⟩
      rw [hd1] at G1 hL
      rw [hd2] at G2 hL
      rw [hd3] at G3 hL
      rw [hd4] at G4 hL
      clear hd1 hd2 hd3 hd4 F1 F2 F3 F4
      replace hL := Lib.hid hL
      replace G1 := Lib.hid G1
      replace G2 := Lib.hid G2
      replace G3 := Lib.hid G3
      replace G4 := Lib.hid G4
      obtain ⟨p1, p2⟩ := P0
      obtain ⟨r1, r2⟩ := P1
      have hC : Hid (∀ w', Below wg.drew.heap.size wg.drew w' → w'.cell? ⟨g13, 0, none⟩ = some (.int .i64 a1) ∧ w'.cell? ⟨g13, 1, none⟩ = some (.int .i64 a2) ∧ w'.cell? ⟨g13, 2, none⟩ = some (.int .i64 b1) ∧ w'.cell? ⟨g13, 3, none⟩ = some (.int .i64 b2)) := fun w' hw => by
        have hB := hGl.drew.callee hw
        exact ⟨hB.cell 0, hB.cell 1, hB.cell 2, hB.cell 3⟩
      have hsc : Hid (∀ w', Below wg.drew.heap.size wg.drew w' → Calls Tryd.prog 18 #[.slice (some ⟨g, 0, none⟩) n c, .int .i64 i] w' fun e w'' => e = .returned (sdV (p1, p2) (r1, r2)) ∧ Below w'.heap.size w' w'') := fun w' hw => sd.out w' (hbw.trans ((drew_up hw).mono hbw.size))
      cases M with
      | none =>
        simp only [metV] at mt
        go_wp2_with (fail)
        refine De.region_det (by kernel_rfl) (by kernel_rfl) ?_
        refine De.Det.read (o := ?o45) (v := ?v45) 0 ?q45 (by kernel_rfl) (by kernel_rfl) ?w45 ?y45 ?h45
        case q45 => (simp only [List.getElem?_toArray, List.getElem?_cons_succ, List.getElem?_cons_zero]; rfl)
        case w45 => kernel_rfl
        case y45 => (intro w' hw'; obtain ⟨c1, c2, c3, c4⟩ := hC.out w' hw'; go_simp; (try with_reducible rfl))
        (try simp only [Act.put, List.setIfInBounds_toArray, List.set_cons_zero, List.set_cons_succ])
        refine De.Det.read (o := ?o46) (v := ?v46) 1 ?q46 (by kernel_rfl) (by kernel_rfl) ?w46 ?y46 ?h46
        case q46 => (simp only [List.getElem?_toArray, List.getElem?_cons_succ, List.getElem?_cons_zero]; rfl)
        case w46 => kernel_rfl
        case y46 => (intro w' hw'; obtain ⟨c1, c2, c3, c4⟩ := hC.out w' hw'; go_simp; (try with_reducible rfl))
        (try simp only [Act.put, List.setIfInBounds_toArray, List.set_cons_zero, List.set_cons_succ])
        refine De.Det.read (o := ?o47) (v := ?v47) 2 ?q47 (by kernel_rfl) (by kernel_rfl) ?w47 ?y47 ?h47
        case q47 => (simp only [List.getElem?_toArray, List.getElem?_cons_succ, List.getElem?_cons_zero]; rfl)
        case w47 => kernel_rfl
        case y47 => (intro w' hw'; obtain ⟨c1, c2, c3, c4⟩ := hC.out w' hw'; go_simp; (try with_reducible rfl))
        (try simp only [Act.put, List.setIfInBounds_toArray, List.set_cons_zero, List.set_cons_succ])
        refine De.Det.call (o := ?o48) (v := ?v48) (f := ?f48) (args := ?g48) 3 ?q48 (by kernel_rfl) (by kernel_rfl) ?w48 ?e48 ?c48 ?h48
        case q48 => (simp only [List.getElem?_toArray, List.getElem?_cons_succ, List.getElem?_cons_zero]; rfl)
        case w48 => kernel_rfl
        case e48 => (intro w'; go_simp; refine ⟨?_, ?_⟩ <;> with_reducible rfl)
        case c48 => (intro w' hw'; exact (hsc.out w' hw'))
        (try simp only [Act.put, List.setIfInBounds_toArray, List.set_cons_zero, List.set_cons_succ])
        refine De.Det.call (o := ?o49) (v := ?v49) (f := ?f49) (args := ?g49) 4 ?q49 (by kernel_rfl) (by kernel_rfl) ?w49 ?e49 ?c49 ?h49
        case q49 => (simp only [List.getElem?_toArray, List.getElem?_cons_succ, List.getElem?_cons_zero]; rfl)
        case w49 => kernel_rfl
        case e49 => (intro w'; go_simp; refine ⟨?_, ?_⟩ <;> with_reducible rfl)
        case c49 => (intro w' hw'; exact (mt.out w'))
        (try simp only [Act.put, List.setIfInBounds_toArray, List.set_cons_zero, List.set_cons_succ])
        refine De.Det.read (o := ?o50) (v := ?v50) 5 ?q50 (by kernel_rfl) (by kernel_rfl) ?w50 ?y50 ?h50
        case q50 => (simp only [List.getElem?_toArray, List.getElem?_cons_succ, List.getElem?_cons_zero]; rfl)
        case w50 => kernel_rfl
        case y50 => (intro w' hw'; obtain ⟨c1, c2, c3, c4⟩ := hC.out w' hw'; go_simp; (try with_reducible rfl))
        (try simp only [Act.put, List.setIfInBounds_toArray, List.set_cons_zero, List.set_cons_succ])
        refine De.Det.base ?_
        refine De.Det2.done (by kernel_rfl) ?_
        rintro wh ⟨hb_wh, hO_wh⟩
        clear hO_wh
        have hbh := hbw.trans ((drew_up hb_wh).mono hbw.size)
        have hbrh := hbr.trans ((drew_up hb_wh).mono hbr.size)
        have hGh := hGl.drew.callee hb_wh
        clear hC hsc
        have TA := ta_none
        go_wp2_with (first
          | (with_reducible show wpList _ _ _ (⟨_, .alloc 35, _, _, _, _⟩ :: _) _ _
             refine wpList_alloc_blk rfl 35 rfl _ zero_pt ?_
             intro wi g16 hG16 hgri hgei
             have hbi := below_none hbh hgri hbh.size
             have hbri := below_none hbrh hgri hbrh.size
             have hGi := hGh.none_ hgri)
          | (with_reducible show wpList _ _ _ (⟨_, .store 35 _ _, _, _, _, _⟩ :: _) _ _
             refine wpList_store_blk rfl 35 _ _ rfl g16 #[.int .i64 0, .int .i64 0] rfl rfl 35 _ hG16 info_pt rfl (by simp [Value.oneCell']) ?_
             intro wj hG16' hgrj
             have hbj := below_some hbi hgrj hbi.size (by have := hbh.size; omega)
             have hbrj := below_some hbri hgrj hbri.size (by have := hbrh.size; omega)
             have hGj := hGi.some_ hgrj (by have := hGh.lt; omega)))
        clear TA
        have hD : Hid (∀ w', Below wj.drew.heap.size wj.drew w' → w'.cell? ⟨g16, 0, none⟩ = some (.int .i64 0) ∧ w'.cell? ⟨g16, 1, none⟩ = some (.int .i64 0) ∧ w'.cell? ⟨g, a * 2, none⟩ = some (.int .i64 a1) ∧ w'.cell? ⟨g, a * 2 + 1, none⟩ = some (.int .i64 a2) ∧ w'.cell? ⟨g, b * 2, none⟩ = some (.int .i64 b1) ∧ w'.cell? ⟨g, b * 2 + 1, none⟩ = some (.int .i64 b2)) := fun w' hw =>
          have hx := hbj.trans ((drew_up hw).mono hbj.size)
          have hB := hG16'.drew.callee hw
          ⟨hB.cell 0, hB.cell 1, (hca.out w' hx).1, (hca.out w' hx).2, (hcb.out w' hx).1, (hcb.out w' hx).2⟩
        refine De.region_det (by kernel_rfl) (by kernel_rfl) ?_
        refine De.Det.read (o := ?o51) (v := ?v51) 0 ?q51 (by kernel_rfl) (by kernel_rfl) ?w51 ?y51 ?h51
        case q51 => (simp only [List.getElem?_toArray, List.getElem?_cons_succ, List.getElem?_cons_zero]; rfl)
        case w51 => kernel_rfl
        case y51 => (intro w' hw'; obtain ⟨c1, c2, c3, c4, c5, c6⟩ := hD.out w' hw'; go_simp; (try with_reducible rfl))
        (try simp only [Act.put, List.setIfInBounds_toArray, List.set_cons_zero, List.set_cons_succ])
        refine De.Det.read (o := ?o52) (v := ?v52) 1 ?q52 (by kernel_rfl) (by kernel_rfl) ?w52 ?y52 ?h52
        case q52 => (simp only [List.getElem?_toArray, List.getElem?_cons_succ, List.getElem?_cons_zero]; rfl)
        case w52 => kernel_rfl
        case y52 => (intro w' hw'; obtain ⟨c1, c2, c3, c4, c5, c6⟩ := hD.out w' hw'; go_simp; (try with_reducible rfl))
        (try simp only [Act.put, List.setIfInBounds_toArray, List.set_cons_zero, List.set_cons_succ])
        refine De.Det.skip (o := ?o53) 2 ?q53 (by kernel_rfl) (by kernel_rfl) ?w53 ?h53
        case q53 => (simp only [List.getElem?_toArray, List.getElem?_cons_succ, List.getElem?_cons_zero]; rfl)
        case w53 => kernel_rfl
        (try simp only [Act.put, List.setIfInBounds_toArray, List.set_cons_zero, List.set_cons_succ])
        refine De.Det.skip (o := ?o54) 3 ?q54 (by kernel_rfl) (by kernel_rfl) ?w54 ?h54
        case q54 => (simp only [List.getElem?_toArray, List.getElem?_cons_succ, List.getElem?_cons_zero]; rfl)
        case w54 => kernel_rfl
        (try simp only [Act.put, List.setIfInBounds_toArray, List.set_cons_zero, List.set_cons_succ])
        refine De.Det.skip (o := ?o55) 4 ?q55 (by kernel_rfl) (by kernel_rfl) ?w55 ?h55
        case q55 => (simp only [List.getElem?_toArray, List.getElem?_cons_succ, List.getElem?_cons_zero]; rfl)
        case w55 => kernel_rfl
        (try simp only [Act.put, List.setIfInBounds_toArray, List.set_cons_zero, List.set_cons_succ])
        refine De.Det.skip (o := ?o56) 5 ?q56 (by kernel_rfl) (by kernel_rfl) ?w56 ?h56
        case q56 => (simp only [List.getElem?_toArray, List.getElem?_cons_succ, List.getElem?_cons_zero]; rfl)
        case w56 => kernel_rfl
        (try simp only [Act.put, List.setIfInBounds_toArray, List.set_cons_zero, List.set_cons_succ])
        refine De.Det.skip (o := ?o57) 6 ?q57 (by kernel_rfl) (by kernel_rfl) ?w57 ?h57
        case q57 => (simp only [List.getElem?_toArray, List.getElem?_cons_succ, List.getElem?_cons_zero]; rfl)
        case w57 => kernel_rfl
        (try simp only [Act.put, List.setIfInBounds_toArray, List.set_cons_zero, List.set_cons_succ])
        refine De.Det.skip (o := ?o58) 7 ?q58 (by kernel_rfl) (by kernel_rfl) ?w58 ?h58
        case q58 => (simp only [List.getElem?_toArray, List.getElem?_cons_succ, List.getElem?_cons_zero]; rfl)
        case w58 => kernel_rfl
        (try simp only [Act.put, List.setIfInBounds_toArray, List.set_cons_zero, List.set_cons_succ])
        refine De.Det.skip (o := ?o59) 8 ?q59 (by kernel_rfl) (by kernel_rfl) ?w59 ?h59
        case q59 => (simp only [List.getElem?_toArray, List.getElem?_cons_succ, List.getElem?_cons_zero]; rfl)
        case w59 => kernel_rfl
        (try simp only [Act.put, List.setIfInBounds_toArray, List.set_cons_zero, List.set_cons_succ])
        refine De.Det.skip (o := ?o60) 9 ?q60 (by kernel_rfl) (by kernel_rfl) ?w60 ?h60
        case q60 => (simp only [List.getElem?_toArray, List.getElem?_cons_succ, List.getElem?_cons_zero]; rfl)
        case w60 => kernel_rfl
        (try simp only [Act.put, List.setIfInBounds_toArray, List.set_cons_zero, List.set_cons_succ])
        refine De.Det.skip (o := ?o61) 10 ?q61 (by kernel_rfl) (by kernel_rfl) ?w61 ?h61
        case q61 => (simp only [List.getElem?_toArray, List.getElem?_cons_succ, List.getElem?_cons_zero]; rfl)
        case w61 => kernel_rfl
        (try simp only [Act.put, List.setIfInBounds_toArray, List.set_cons_zero, List.set_cons_succ])
        refine De.Det.skip (o := ?o62) 11 ?q62 (by kernel_rfl) (by kernel_rfl) ?w62 ?h62
        case q62 => (simp only [List.getElem?_toArray, List.getElem?_cons_succ, List.getElem?_cons_zero]; rfl)
        case w62 => kernel_rfl
        (try simp only [Act.put, List.setIfInBounds_toArray, List.set_cons_zero, List.set_cons_succ])
        refine De.Det.skip (o := ?o63) 12 ?q63 (by kernel_rfl) (by kernel_rfl) ?w63 ?h63
        case q63 => (simp only [List.getElem?_toArray, List.getElem?_cons_succ, List.getElem?_cons_zero]; rfl)
        case w63 => kernel_rfl
        (try simp only [Act.put, List.setIfInBounds_toArray, List.set_cons_zero, List.set_cons_succ])
        refine De.Det.skip (o := ?o64) 13 ?q64 (by kernel_rfl) (by kernel_rfl) ?w64 ?h64
        case q64 => (simp only [List.getElem?_toArray, List.getElem?_cons_succ, List.getElem?_cons_zero]; rfl)
        case w64 => kernel_rfl
        (try simp only [Act.put, List.setIfInBounds_toArray, List.set_cons_zero, List.set_cons_succ])
        refine De.Det.skip (o := ?o65) 14 ?q65 (by kernel_rfl) (by kernel_rfl) ?w65 ?h65
        case q65 => (simp only [List.getElem?_toArray, List.getElem?_cons_succ, List.getElem?_cons_zero]; rfl)
        case w65 => kernel_rfl
        (try simp only [Act.put, List.setIfInBounds_toArray, List.set_cons_zero, List.set_cons_succ])
        refine De.Det.skip (o := ?o66) 15 ?q66 (by kernel_rfl) (by kernel_rfl) ?w66 ?h66
        case q66 => (simp only [List.getElem?_toArray, List.getElem?_cons_succ, List.getElem?_cons_zero]; rfl)
        case w66 => kernel_rfl
        (try simp only [Act.put, List.setIfInBounds_toArray, List.set_cons_zero, List.set_cons_succ])
        refine De.Det.read (o := ?o67) (v := ?v67) 16 ?q67 (by kernel_rfl) (by kernel_rfl) ?w67 ?y67 ?h67
        case q67 => (simp only [List.getElem?_toArray, List.getElem?_cons_succ, List.getElem?_cons_zero]; rfl)
        case w67 => kernel_rfl
        case y67 => (intro w' hw'; obtain ⟨c1, c2, c3, c4, c5, c6⟩ := hD.out w' hw'; go_simp; (try with_reducible rfl))
        (try simp only [Act.put, List.setIfInBounds_toArray, List.set_cons_zero, List.set_cons_succ])
        refine De.Det.read (o := ?o68) (v := ?v68) 17 ?q68 (by kernel_rfl) (by kernel_rfl) ?w68 ?y68 ?h68
        case q68 => (simp only [List.getElem?_toArray, List.getElem?_cons_succ, List.getElem?_cons_zero]; rfl)
        case w68 => kernel_rfl
        case y68 => (intro w' hw'; obtain ⟨c1, c2, c3, c4, c5, c6⟩ := hD.out w' hw'; go_simp; (try with_reducible rfl))
        (try simp only [Act.put, List.setIfInBounds_toArray, List.set_cons_zero, List.set_cons_succ])
        refine De.Det.base ?_
        refine De.Det2.done (by kernel_rfl) ?_
        rintro wk ⟨hb_wk, hO_wk⟩
        clear hO_wk
        have hbk := hbj.trans ((drew_up hb_wk).mono hbj.size)
        have hbrk := hbrj.trans ((drew_up hb_wk).mono hbrj.size)
        have hGk := hGj.drew.callee hb_wk
        clear hD
        go_wp2_with (fail)
        go_roundw
        case rel => exact ⟨i + 1, by omega, by go_num, hgo2.out (by (rw [← hL.out]) <;> simp), hbrk⟩
        case measure => simp [intOf]; omega
      | cross =>
        simp only [metV] at mt
        go_wp2_with (fail)
        refine De.region_det (by kernel_rfl) (by kernel_rfl) ?_
        refine De.Det.read (o := ?o69) (v := ?v69) 0 ?q69 (by kernel_rfl) (by kernel_rfl) ?w69 ?y69 ?h69
        case q69 => (simp only [List.getElem?_toArray, List.getElem?_cons_succ, List.getElem?_cons_zero]; rfl)
        case w69 => kernel_rfl
        case y69 => (intro w' hw'; obtain ⟨c1, c2, c3, c4⟩ := hC.out w' hw'; go_simp; (try with_reducible rfl))
        (try simp only [Act.put, List.setIfInBounds_toArray, List.set_cons_zero, List.set_cons_succ])
        refine De.Det.read (o := ?o70) (v := ?v70) 1 ?q70 (by kernel_rfl) (by kernel_rfl) ?w70 ?y70 ?h70
        case q70 => (simp only [List.getElem?_toArray, List.getElem?_cons_succ, List.getElem?_cons_zero]; rfl)
        case w70 => kernel_rfl
        case y70 => (intro w' hw'; obtain ⟨c1, c2, c3, c4⟩ := hC.out w' hw'; go_simp; (try with_reducible rfl))
        (try simp only [Act.put, List.setIfInBounds_toArray, List.set_cons_zero, List.set_cons_succ])
        refine De.Det.read (o := ?o71) (v := ?v71) 2 ?q71 (by kernel_rfl) (by kernel_rfl) ?w71 ?y71 ?h71
        case q71 => (simp only [List.getElem?_toArray, List.getElem?_cons_succ, List.getElem?_cons_zero]; rfl)
        case w71 => kernel_rfl
        case y71 => (intro w' hw'; obtain ⟨c1, c2, c3, c4⟩ := hC.out w' hw'; go_simp; (try with_reducible rfl))
        (try simp only [Act.put, List.setIfInBounds_toArray, List.set_cons_zero, List.set_cons_succ])
        refine De.Det.call (o := ?o72) (v := ?v72) (f := ?f72) (args := ?g72) 3 ?q72 (by kernel_rfl) (by kernel_rfl) ?w72 ?e72 ?c72 ?h72
        case q72 => (simp only [List.getElem?_toArray, List.getElem?_cons_succ, List.getElem?_cons_zero]; rfl)
        case w72 => kernel_rfl
        case e72 => (intro w'; go_simp; refine ⟨?_, ?_⟩ <;> with_reducible rfl)
        case c72 => (intro w' hw'; exact (hsc.out w' hw'))
        (try simp only [Act.put, List.setIfInBounds_toArray, List.set_cons_zero, List.set_cons_succ])
        refine De.Det.call (o := ?o73) (v := ?v73) (f := ?f73) (args := ?g73) 4 ?q73 (by kernel_rfl) (by kernel_rfl) ?w73 ?e73 ?c73 ?h73
        case q73 => (simp only [List.getElem?_toArray, List.getElem?_cons_succ, List.getElem?_cons_zero]; rfl)
        case w73 => kernel_rfl
        case e73 => (intro w'; go_simp; refine ⟨?_, ?_⟩ <;> with_reducible rfl)
        case c73 => (intro w' hw'; exact (mt.out w'))
        (try simp only [Act.put, List.setIfInBounds_toArray, List.set_cons_zero, List.set_cons_succ])
        refine De.Det.read (o := ?o74) (v := ?v74) 5 ?q74 (by kernel_rfl) (by kernel_rfl) ?w74 ?y74 ?h74
        case q74 => (simp only [List.getElem?_toArray, List.getElem?_cons_succ, List.getElem?_cons_zero]; rfl)
        case w74 => kernel_rfl
        case y74 => (intro w' hw'; obtain ⟨c1, c2, c3, c4⟩ := hC.out w' hw'; go_simp; (try with_reducible rfl))
        (try simp only [Act.put, List.setIfInBounds_toArray, List.set_cons_zero, List.set_cons_succ])
        refine De.Det.base ?_
        refine De.Det2.done (by kernel_rfl) ?_
        rintro wh ⟨hb_wh, hO_wh⟩
        clear hO_wh
        have hbh := hbw.trans ((drew_up hb_wh).mono hbw.size)
        have hbrh := hbr.trans ((drew_up hb_wh).mono hbr.size)
        have hGh := hGl.drew.callee hb_wh
        clear hC hsc
        have TA := ta_cross
        go_wp2_with (first
          | (with_reducible show wpList _ _ _ (⟨_, .alloc 35, _, _, _, _⟩ :: _) _ _
             refine wpList_alloc_blk rfl 35 rfl _ zero_pt ?_
             intro wi g16 hG16 hgri hgei
             have hbi := below_none hbh hgri hbh.size
             have hbri := below_none hbrh hgri hbrh.size
             have hGi := hGh.none_ hgri)
          | (with_reducible show wpList _ _ _ (⟨_, .store 35 _ _, _, _, _, _⟩ :: _) _ _
             refine wpList_store_blk rfl 35 _ _ rfl g16 #[.int .i64 0, .int .i64 0] rfl rfl 35 _ hG16 info_pt rfl (by simp [Value.oneCell']) ?_
             intro wj hG16' hgrj
             have hbj := below_some hbi hgrj hbi.size (by have := hbh.size; omega)
             have hbrj := below_some hbri hgrj hbri.size (by have := hbrh.size; omega)
             have hGj := hGi.some_ hgrj (by have := hGh.lt; omega)))
        clear TA
        have hD : Hid (∀ w', Below wj.drew.heap.size wj.drew w' → w'.cell? ⟨g16, 0, none⟩ = some (.int .i64 0) ∧ w'.cell? ⟨g16, 1, none⟩ = some (.int .i64 0) ∧ w'.cell? ⟨g, a * 2, none⟩ = some (.int .i64 a1) ∧ w'.cell? ⟨g, a * 2 + 1, none⟩ = some (.int .i64 a2) ∧ w'.cell? ⟨g, b * 2, none⟩ = some (.int .i64 b1) ∧ w'.cell? ⟨g, b * 2 + 1, none⟩ = some (.int .i64 b2)) := fun w' hw =>
          have hx := hbj.trans ((drew_up hw).mono hbj.size)
          have hB := hG16'.drew.callee hw
          ⟨hB.cell 0, hB.cell 1, (hca.out w' hx).1, (hca.out w' hx).2, (hcb.out w' hx).1, (hcb.out w' hx).2⟩
        refine De.region_det (by kernel_rfl) (by kernel_rfl) ?_
        refine De.Det.read (o := ?o75) (v := ?v75) 0 ?q75 (by kernel_rfl) (by kernel_rfl) ?w75 ?y75 ?h75
        case q75 => (simp only [List.getElem?_toArray, List.getElem?_cons_succ, List.getElem?_cons_zero]; rfl)
        case w75 => kernel_rfl
        case y75 => (intro w' hw'; obtain ⟨c1, c2, c3, c4, c5, c6⟩ := hD.out w' hw'; go_simp; (try with_reducible rfl))
        (try simp only [Act.put, List.setIfInBounds_toArray, List.set_cons_zero, List.set_cons_succ])
        refine De.Det.read (o := ?o76) (v := ?v76) 1 ?q76 (by kernel_rfl) (by kernel_rfl) ?w76 ?y76 ?h76
        case q76 => (simp only [List.getElem?_toArray, List.getElem?_cons_succ, List.getElem?_cons_zero]; rfl)
        case w76 => kernel_rfl
        case y76 => (intro w' hw'; obtain ⟨c1, c2, c3, c4, c5, c6⟩ := hD.out w' hw'; go_simp; (try with_reducible rfl))
        (try simp only [Act.put, List.setIfInBounds_toArray, List.set_cons_zero, List.set_cons_succ])
        refine De.Det.skip (o := ?o77) 2 ?q77 (by kernel_rfl) (by kernel_rfl) ?w77 ?h77
        case q77 => (simp only [List.getElem?_toArray, List.getElem?_cons_succ, List.getElem?_cons_zero]; rfl)
        case w77 => kernel_rfl
        (try simp only [Act.put, List.setIfInBounds_toArray, List.set_cons_zero, List.set_cons_succ])
        refine De.Det.skip (o := ?o78) 3 ?q78 (by kernel_rfl) (by kernel_rfl) ?w78 ?h78
        case q78 => (simp only [List.getElem?_toArray, List.getElem?_cons_succ, List.getElem?_cons_zero]; rfl)
        case w78 => kernel_rfl
        (try simp only [Act.put, List.setIfInBounds_toArray, List.set_cons_zero, List.set_cons_succ])
        refine De.Det.skip (o := ?o79) 4 ?q79 (by kernel_rfl) (by kernel_rfl) ?w79 ?h79
        case q79 => (simp only [List.getElem?_toArray, List.getElem?_cons_succ, List.getElem?_cons_zero]; rfl)
        case w79 => kernel_rfl
        (try simp only [Act.put, List.setIfInBounds_toArray, List.set_cons_zero, List.set_cons_succ])
        refine De.Det.skip (o := ?o80) 5 ?q80 (by kernel_rfl) (by kernel_rfl) ?w80 ?h80
        case q80 => (simp only [List.getElem?_toArray, List.getElem?_cons_succ, List.getElem?_cons_zero]; rfl)
        case w80 => kernel_rfl
        (try simp only [Act.put, List.setIfInBounds_toArray, List.set_cons_zero, List.set_cons_succ])
        refine De.Det.skip (o := ?o81) 6 ?q81 (by kernel_rfl) (by kernel_rfl) ?w81 ?h81
        case q81 => (simp only [List.getElem?_toArray, List.getElem?_cons_succ, List.getElem?_cons_zero]; rfl)
        case w81 => kernel_rfl
        (try simp only [Act.put, List.setIfInBounds_toArray, List.set_cons_zero, List.set_cons_succ])
        refine De.Det.skip (o := ?o82) 7 ?q82 (by kernel_rfl) (by kernel_rfl) ?w82 ?h82
        case q82 => (simp only [List.getElem?_toArray, List.getElem?_cons_succ, List.getElem?_cons_zero]; rfl)
        case w82 => kernel_rfl
        (try simp only [Act.put, List.setIfInBounds_toArray, List.set_cons_zero, List.set_cons_succ])
        refine De.Det.skip (o := ?o83) 8 ?q83 (by kernel_rfl) (by kernel_rfl) ?w83 ?h83
        case q83 => (simp only [List.getElem?_toArray, List.getElem?_cons_succ, List.getElem?_cons_zero]; rfl)
        case w83 => kernel_rfl
        (try simp only [Act.put, List.setIfInBounds_toArray, List.set_cons_zero, List.set_cons_succ])
        refine De.Det.skip (o := ?o84) 9 ?q84 (by kernel_rfl) (by kernel_rfl) ?w84 ?h84
        case q84 => (simp only [List.getElem?_toArray, List.getElem?_cons_succ, List.getElem?_cons_zero]; rfl)
        case w84 => kernel_rfl
        (try simp only [Act.put, List.setIfInBounds_toArray, List.set_cons_zero, List.set_cons_succ])
        refine De.Det.skip (o := ?o85) 10 ?q85 (by kernel_rfl) (by kernel_rfl) ?w85 ?h85
        case q85 => (simp only [List.getElem?_toArray, List.getElem?_cons_succ, List.getElem?_cons_zero]; rfl)
        case w85 => kernel_rfl
        (try simp only [Act.put, List.setIfInBounds_toArray, List.set_cons_zero, List.set_cons_succ])
        refine De.Det.skip (o := ?o86) 11 ?q86 (by kernel_rfl) (by kernel_rfl) ?w86 ?h86
        case q86 => (simp only [List.getElem?_toArray, List.getElem?_cons_succ, List.getElem?_cons_zero]; rfl)
        case w86 => kernel_rfl
        (try simp only [Act.put, List.setIfInBounds_toArray, List.set_cons_zero, List.set_cons_succ])
        refine De.Det.skip (o := ?o87) 12 ?q87 (by kernel_rfl) (by kernel_rfl) ?w87 ?h87
        case q87 => (simp only [List.getElem?_toArray, List.getElem?_cons_succ, List.getElem?_cons_zero]; rfl)
        case w87 => kernel_rfl
        (try simp only [Act.put, List.setIfInBounds_toArray, List.set_cons_zero, List.set_cons_succ])
        refine De.Det.skip (o := ?o88) 13 ?q88 (by kernel_rfl) (by kernel_rfl) ?w88 ?h88
        case q88 => (simp only [List.getElem?_toArray, List.getElem?_cons_succ, List.getElem?_cons_zero]; rfl)
        case w88 => kernel_rfl
        (try simp only [Act.put, List.setIfInBounds_toArray, List.set_cons_zero, List.set_cons_succ])
        refine De.Det.skip (o := ?o89) 14 ?q89 (by kernel_rfl) (by kernel_rfl) ?w89 ?h89
        case q89 => (simp only [List.getElem?_toArray, List.getElem?_cons_succ, List.getElem?_cons_zero]; rfl)
        case w89 => kernel_rfl
        (try simp only [Act.put, List.setIfInBounds_toArray, List.set_cons_zero, List.set_cons_succ])
        refine De.Det.skip (o := ?o90) 15 ?q90 (by kernel_rfl) (by kernel_rfl) ?w90 ?h90
        case q90 => (simp only [List.getElem?_toArray, List.getElem?_cons_succ, List.getElem?_cons_zero]; rfl)
        case w90 => kernel_rfl
        (try simp only [Act.put, List.setIfInBounds_toArray, List.set_cons_zero, List.set_cons_succ])
        refine De.Det.read (o := ?o91) (v := ?v91) 16 ?q91 (by kernel_rfl) (by kernel_rfl) ?w91 ?y91 ?h91
        case q91 => (simp only [List.getElem?_toArray, List.getElem?_cons_succ, List.getElem?_cons_zero]; rfl)
        case w91 => kernel_rfl
        case y91 => (intro w' hw'; obtain ⟨c1, c2, c3, c4, c5, c6⟩ := hD.out w' hw'; go_simp; (try with_reducible rfl))
        (try simp only [Act.put, List.setIfInBounds_toArray, List.set_cons_zero, List.set_cons_succ])
        refine De.Det.read (o := ?o92) (v := ?v92) 17 ?q92 (by kernel_rfl) (by kernel_rfl) ?w92 ?y92 ?h92
        case q92 => (simp only [List.getElem?_toArray, List.getElem?_cons_succ, List.getElem?_cons_zero]; rfl)
        case w92 => kernel_rfl
        case y92 => (intro w' hw'; obtain ⟨c1, c2, c3, c4, c5, c6⟩ := hD.out w' hw'; go_simp; (try with_reducible rfl))
        (try simp only [Act.put, List.setIfInBounds_toArray, List.set_cons_zero, List.set_cons_succ])
        refine De.Det.base ?_
        refine De.Det2.done (by kernel_rfl) ?_
        rintro wk ⟨hb_wk, hO_wk⟩
        clear hO_wk
        have hbk := hbj.trans ((drew_up hb_wk).mono hbj.size)
        have hbrk := hbrj.trans ((drew_up hb_wk).mono hbrj.size)
        have hGk := hGj.drew.callee hb_wk
        clear hD
        go_wp2_with (fail)
        go_ret
        exact ⟨ret_bool (hbad.out (by (rw [← hL.out]) <;> simp)).symm, hbk⟩
      | pt z =>
        have E1 := eq_pt z (a1, a2)
        have E2 := eq_pt z (b1, b2)
        replace hL : Hid ((if z = (a1, a2) ∨ z = (b1, b2) then !(d1 && d2 && y0 || d3 && d4 && y1) else false) = L) := hL
        obtain ⟨QZ, hQZ⟩ : ∃ q, decide (z = (a1, a2) ∨ z = (b1, b2)) = q := ⟨_, rfl⟩
        have hL2 : (if QZ = true then !(d1 && d2 && y0 || d3 && d4 && y1) else false) = L := by rw [← hQZ, ← hL.out]; simp
        replace hL := Lib.hid hL2
        clear hL2
        obtain ⟨e1, he1⟩ : ∃ d, decide (z = (a1, a2)) = d := ⟨_, rfl⟩
        obtain ⟨e2, he2⟩ : ∃ d, decide (z = (b1, b2)) = d := ⟨_, rfl⟩
        have hq : (e1 || e2) = QZ := by rw [← hQZ, ← he1, ← he2]; simp
        rw [he1] at E1
        rw [he2] at E2
        replace E1 := Lib.hid E1
        replace E2 := Lib.hid E2
        replace hq := Lib.hid hq
        clear he1 he2 hQZ
        obtain ⟨z1, z2⟩ := z
        simp only [metV] at mt
        go_wp2_with (fail)
        refine De.region_det (by kernel_rfl) (by kernel_rfl) ?_
        refine De.Det.read (o := ?o93) (v := ?v93) 0 ?q93 (by kernel_rfl) (by kernel_rfl) ?w93 ?y93 ?h93
        case q93 => (simp only [List.getElem?_toArray, List.getElem?_cons_succ, List.getElem?_cons_zero]; rfl)
        case w93 => kernel_rfl
        case y93 => (intro w' hw'; obtain ⟨c1, c2, c3, c4⟩ := hC.out w' hw'; go_simp; (try with_reducible rfl))
        (try simp only [Act.put, List.setIfInBounds_toArray, List.set_cons_zero, List.set_cons_succ])
        refine De.Det.read (o := ?o94) (v := ?v94) 1 ?q94 (by kernel_rfl) (by kernel_rfl) ?w94 ?y94 ?h94
        case q94 => (simp only [List.getElem?_toArray, List.getElem?_cons_succ, List.getElem?_cons_zero]; rfl)
        case w94 => kernel_rfl
        case y94 => (intro w' hw'; obtain ⟨c1, c2, c3, c4⟩ := hC.out w' hw'; go_simp; (try with_reducible rfl))
        (try simp only [Act.put, List.setIfInBounds_toArray, List.set_cons_zero, List.set_cons_succ])
        refine De.Det.read (o := ?o95) (v := ?v95) 2 ?q95 (by kernel_rfl) (by kernel_rfl) ?w95 ?y95 ?h95
        case q95 => (simp only [List.getElem?_toArray, List.getElem?_cons_succ, List.getElem?_cons_zero]; rfl)
        case w95 => kernel_rfl
        case y95 => (intro w' hw'; obtain ⟨c1, c2, c3, c4⟩ := hC.out w' hw'; go_simp; (try with_reducible rfl))
        (try simp only [Act.put, List.setIfInBounds_toArray, List.set_cons_zero, List.set_cons_succ])
        refine De.Det.call (o := ?o96) (v := ?v96) (f := ?f96) (args := ?g96) 3 ?q96 (by kernel_rfl) (by kernel_rfl) ?w96 ?e96 ?c96 ?h96
        case q96 => (simp only [List.getElem?_toArray, List.getElem?_cons_succ, List.getElem?_cons_zero]; rfl)
        case w96 => kernel_rfl
        case e96 => (intro w'; go_simp; refine ⟨?_, ?_⟩ <;> with_reducible rfl)
        case c96 => (intro w' hw'; exact (hsc.out w' hw'))
        (try simp only [Act.put, List.setIfInBounds_toArray, List.set_cons_zero, List.set_cons_succ])
        refine De.Det.call (o := ?o97) (v := ?v97) (f := ?f97) (args := ?g97) 4 ?q97 (by kernel_rfl) (by kernel_rfl) ?w97 ?e97 ?c97 ?h97
        case q97 => (simp only [List.getElem?_toArray, List.getElem?_cons_succ, List.getElem?_cons_zero]; rfl)
        case w97 => kernel_rfl
        case e97 => (intro w'; go_simp; refine ⟨?_, ?_⟩ <;> with_reducible rfl)
        case c97 => (intro w' hw'; exact (mt.out w'))
        (try simp only [Act.put, List.setIfInBounds_toArray, List.set_cons_zero, List.set_cons_succ])
        refine De.Det.read (o := ?o98) (v := ?v98) 5 ?q98 (by kernel_rfl) (by kernel_rfl) ?w98 ?y98 ?h98
        case q98 => (simp only [List.getElem?_toArray, List.getElem?_cons_succ, List.getElem?_cons_zero]; rfl)
        case w98 => kernel_rfl
        case y98 => (intro w' hw'; obtain ⟨c1, c2, c3, c4⟩ := hC.out w' hw'; go_simp; (try with_reducible rfl))
        (try simp only [Act.put, List.setIfInBounds_toArray, List.set_cons_zero, List.set_cons_succ])
        refine De.Det.base ?_
        refine De.Det2.done (by kernel_rfl) ?_
        rintro wh ⟨hb_wh, hO_wh⟩
        clear hO_wh
        have hbh := hbw.trans ((drew_up hb_wh).mono hbw.size)
        have hbrh := hbr.trans ((drew_up hb_wh).mono hbr.size)
        have hGh := hGl.drew.callee hb_wh
        clear hC hsc
        have TA := ta_pt
        go_wp2_with (first
          | (with_reducible show wpList _ _ _ (⟨_, .alloc 35, _, _, _, _⟩ :: _) _ _
             refine wpList_alloc_blk rfl 35 rfl _ zero_pt ?_
             intro wi g16 hG16 hgri hgei
             have hbi := below_none hbh hgri hbh.size
             have hbri := below_none hbrh hgri hbrh.size
             have hGi := hGh.none_ hgri)
          | (with_reducible show wpList _ _ _ (⟨_, .store 35 _ _, _, _, _, _⟩ :: _) _ _
             refine wpList_store_blk rfl 35 _ _ rfl g16 #[.int .i64 z1, .int .i64 z2] rfl rfl 35 _ hG16 info_pt rfl (by simp [Value.oneCell']) ?_
             intro wj hG16' hgrj
             have hbj := below_some hbi hgrj hbi.size (by have := hbh.size; omega)
             have hbrj := below_some hbri hgrj hbri.size (by have := hbrh.size; omega)
             have hGj := hGi.some_ hgrj (by have := hGh.lt; omega)))
        clear TA
        go_cut [118] from 119 to 135 (fun v wx => v = .bool QZ ∧ Below wj.heap.size wj wx)
        case first =>
          replace E1 := E1.out
          replace E2 := E2.out
          cases e1 with
          | true =>
            have hD : Hid (∀ w', Below wj.drew.heap.size wj.drew w' → w'.cell? ⟨g16, 0, none⟩ = some (.int .i64 z1) ∧ w'.cell? ⟨g16, 1, none⟩ = some (.int .i64 z2) ∧ w'.cell? ⟨g, a * 2, none⟩ = some (.int .i64 a1) ∧ w'.cell? ⟨g, a * 2 + 1, none⟩ = some (.int .i64 a2) ∧ w'.cell? ⟨g, b * 2, none⟩ = some (.int .i64 b1) ∧ w'.cell? ⟨g, b * 2 + 1, none⟩ = some (.int .i64 b2)) := fun w' hw =>
              have hx := hbj.trans ((drew_up hw).mono hbj.size)
              have hB := hG16'.drew.callee hw
              ⟨hB.cell 0, hB.cell 1, (hca.out w' hx).1, (hca.out w' hx).2, (hcb.out w' hx).1, (hcb.out w' hx).2⟩
            refine De.region_det (by kernel_rfl) (by kernel_rfl) ?_
            refine De.Det.read (o := ?o99) (v := ?v99) 0 ?q99 (by kernel_rfl) (by kernel_rfl) ?w99 ?y99 ?h99
            case q99 => (simp only [List.getElem?_toArray, List.getElem?_cons_succ, List.getElem?_cons_zero]; rfl)
            case w99 => kernel_rfl
            case y99 => (intro w' hw'; obtain ⟨c1, c2, c3, c4, c5, c6⟩ := hD.out w' hw'; go_simp; (try with_reducible rfl))
            (try simp only [Act.put, List.setIfInBounds_toArray, List.set_cons_zero, List.set_cons_succ])
            refine De.Det.read (o := ?o100) (v := ?v100) 1 ?q100 (by kernel_rfl) (by kernel_rfl) ?w100 ?y100 ?h100
            case q100 => (simp only [List.getElem?_toArray, List.getElem?_cons_succ, List.getElem?_cons_zero]; rfl)
            case w100 => kernel_rfl
            case y100 => (intro w' hw'; obtain ⟨c1, c2, c3, c4, c5, c6⟩ := hD.out w' hw'; go_simp; (try with_reducible rfl))
            (try simp only [Act.put, List.setIfInBounds_toArray, List.set_cons_zero, List.set_cons_succ])
            refine De.Det.read (o := ?o101) (v := ?v101) 2 ?q101 (by kernel_rfl) (by kernel_rfl) ?w101 ?y101 ?h101
            case q101 => (simp only [List.getElem?_toArray, List.getElem?_cons_succ, List.getElem?_cons_zero]; rfl)
            case w101 => kernel_rfl
            case y101 => (intro w' hw'; obtain ⟨c1, c2, c3, c4, c5, c6⟩ := hD.out w' hw'; go_simp; (try with_reducible rfl))
            (try simp only [Act.put, List.setIfInBounds_toArray, List.set_cons_zero, List.set_cons_succ])
            refine De.Det.read (o := ?o102) (v := ?v102) 3 ?q102 (by kernel_rfl) (by kernel_rfl) ?w102 ?y102 ?h102
            case q102 => (simp only [List.getElem?_toArray, List.getElem?_cons_succ, List.getElem?_cons_zero]; rfl)
            case w102 => kernel_rfl
            case y102 => (intro w' hw'; obtain ⟨c1, c2, c3, c4, c5, c6⟩ := hD.out w' hw'; go_simp; (try with_reducible rfl))
            (try simp only [Act.put, List.setIfInBounds_toArray, List.set_cons_zero, List.set_cons_succ])
            refine De.Det.read (o := ?o103) (v := ?v103) 4 ?q103 (by kernel_rfl) (by kernel_rfl) ?w103 ?y103 ?h103
            case q103 => (simp only [List.getElem?_toArray, List.getElem?_cons_succ, List.getElem?_cons_zero]; rfl)
            case w103 => kernel_rfl
            case y103 => (intro w' hw'; obtain ⟨c1, c2, c3, c4, c5, c6⟩ := hD.out w' hw'; go_simp; (try with_reducible rfl))
            (try simp only [Act.put, List.setIfInBounds_toArray, List.set_cons_zero, List.set_cons_succ])
            refine De.Det.read (o := ?o104) (v := ?v104) 5 ?q104 (by kernel_rfl) (by kernel_rfl) ?w104 ?y104 ?h104
            case q104 => (simp only [List.getElem?_toArray, List.getElem?_cons_succ, List.getElem?_cons_zero]; rfl)
            case w104 => kernel_rfl
            case y104 => (intro w' hw'; obtain ⟨c1, c2, c3, c4, c5, c6⟩ := hD.out w' hw'; go_simp; (try with_reducible rfl))
            (try simp only [Act.put, List.setIfInBounds_toArray, List.set_cons_zero, List.set_cons_succ])
            refine De.Det.read (o := ?o105) (v := ?v105) 6 ?q105 (by kernel_rfl) (by kernel_rfl) ?w105 ?y105 ?h105
            case q105 => (simp only [List.getElem?_toArray, List.getElem?_cons_succ, List.getElem?_cons_zero]; rfl)
            case w105 => kernel_rfl
            case y105 => (intro w' hw'; obtain ⟨c1, c2, c3, c4, c5, c6⟩ := hD.out w' hw'; go_simp; (try with_reducible rfl))
            (try simp only [Act.put, List.setIfInBounds_toArray, List.set_cons_zero, List.set_cons_succ])
            refine De.Det.read (o := ?o106) (v := ?v106) 7 ?q106 (by kernel_rfl) (by kernel_rfl) ?w106 ?y106 ?h106
            case q106 => (simp only [List.getElem?_toArray, List.getElem?_cons_succ, List.getElem?_cons_zero]; rfl)
            case w106 => kernel_rfl
            case y106 => (intro w' hw'; obtain ⟨c1, c2, c3, c4, c5, c6⟩ := hD.out w' hw'; go_simp; (try with_reducible rfl))
            (try simp only [Act.put, List.setIfInBounds_toArray, List.set_cons_zero, List.set_cons_succ])
            refine De.Det.read (o := ?o107) (v := ?v107) 8 ?q107 (by kernel_rfl) (by kernel_rfl) ?w107 ?y107 ?h107
            case q107 => (simp only [List.getElem?_toArray, List.getElem?_cons_succ, List.getElem?_cons_zero]; rfl)
            case w107 => kernel_rfl
            case y107 => (intro w' hw'; obtain ⟨c1, c2, c3, c4, c5, c6⟩ := hD.out w' hw'; go_simp; (try with_reducible rfl))
            (try simp only [Act.put, List.setIfInBounds_toArray, List.set_cons_zero, List.set_cons_succ])
            refine De.Det.skip (o := ?o108) 9 ?q108 (by kernel_rfl) (by kernel_rfl) ?w108 ?h108
            case q108 => (simp only [List.getElem?_toArray, List.getElem?_cons_succ, List.getElem?_cons_zero]; rfl)
            case w108 => kernel_rfl
            (try simp only [Act.put, List.setIfInBounds_toArray, List.set_cons_zero, List.set_cons_succ])
            refine De.Det.skip (o := ?o109) 10 ?q109 (by kernel_rfl) (by kernel_rfl) ?w109 ?h109
            case q109 => (simp only [List.getElem?_toArray, List.getElem?_cons_succ, List.getElem?_cons_zero]; rfl)
            case w109 => kernel_rfl
            (try simp only [Act.put, List.setIfInBounds_toArray, List.set_cons_zero, List.set_cons_succ])
            refine De.Det.skip (o := ?o110) 11 ?q110 (by kernel_rfl) (by kernel_rfl) ?w110 ?h110
            case q110 => (simp only [List.getElem?_toArray, List.getElem?_cons_succ, List.getElem?_cons_zero]; rfl)
            case w110 => kernel_rfl
            (try simp only [Act.put, List.setIfInBounds_toArray, List.set_cons_zero, List.set_cons_succ])
            refine De.Det.skip (o := ?o111) 12 ?q111 (by kernel_rfl) (by kernel_rfl) ?w111 ?h111
            case q111 => (simp only [List.getElem?_toArray, List.getElem?_cons_succ, List.getElem?_cons_zero]; rfl)
            case w111 => kernel_rfl
            (try simp only [Act.put, List.setIfInBounds_toArray, List.set_cons_zero, List.set_cons_succ])
            refine De.Det.skip (o := ?o112) 13 ?q112 (by kernel_rfl) (by kernel_rfl) ?w112 ?h112
            case q112 => (simp only [List.getElem?_toArray, List.getElem?_cons_succ, List.getElem?_cons_zero]; rfl)
            case w112 => kernel_rfl
            (try simp only [Act.put, List.setIfInBounds_toArray, List.set_cons_zero, List.set_cons_succ])
            refine De.Det.skip (o := ?o113) 14 ?q113 (by kernel_rfl) (by kernel_rfl) ?w113 ?h113
            case q113 => (simp only [List.getElem?_toArray, List.getElem?_cons_succ, List.getElem?_cons_zero]; rfl)
            case w113 => kernel_rfl
            (try simp only [Act.put, List.setIfInBounds_toArray, List.set_cons_zero, List.set_cons_succ])
            refine De.Det.read (o := ?o114) (v := ?v114) 15 ?q114 (by kernel_rfl) (by kernel_rfl) ?w114 ?y114 ?h114
            case q114 => (simp only [List.getElem?_toArray, List.getElem?_cons_succ, List.getElem?_cons_zero]; rfl)
            case w114 => kernel_rfl
            case y114 => (intro w' hw'; obtain ⟨c1, c2, c3, c4, c5, c6⟩ := hD.out w' hw'; go_simp; (try with_reducible rfl))
            (try simp only [Act.put, List.setIfInBounds_toArray, List.set_cons_zero, List.set_cons_succ])
            refine De.Det.read (o := ?o115) (v := ?v115) 16 ?q115 (by kernel_rfl) (by kernel_rfl) ?w115 ?y115 ?h115
            case q115 => (simp only [List.getElem?_toArray, List.getElem?_cons_succ, List.getElem?_cons_zero]; rfl)
            case w115 => kernel_rfl
            case y115 => (intro w' hw'; obtain ⟨c1, c2, c3, c4, c5, c6⟩ := hD.out w' hw'; go_simp; (try with_reducible rfl))
            (try simp only [Act.put, List.setIfInBounds_toArray, List.set_cons_zero, List.set_cons_succ])
            refine De.Det.read (o := ?o116) (v := ?v116) 17 ?q116 (by kernel_rfl) (by kernel_rfl) ?w116 ?y116 ?h116
            case q116 => (simp only [List.getElem?_toArray, List.getElem?_cons_succ, List.getElem?_cons_zero]; rfl)
            case w116 => kernel_rfl
            case y116 => (intro w' hw'; obtain ⟨c1, c2, c3, c4, c5, c6⟩ := hD.out w' hw'; go_simp; (try with_reducible rfl))
            (try simp only [Act.put, List.setIfInBounds_toArray, List.set_cons_zero, List.set_cons_succ])
            refine De.Det.base ?_
            refine De.Det2.done (by kernel_rfl) ?_
            rintro wk ⟨hb_wk, hO_wk⟩
            clear hO_wk
            have hbk := hbj.trans ((drew_up hb_wk).mono hbj.size)
            have hbrk := hbrj.trans ((drew_up hb_wk).mono hbrj.size)
            have hGk := hGj.drew.callee hb_wk
            clear hD
            go_wp2_with (fail)
            go_meet
            exact ⟨by rw [← hq.out]; rfl, drew_up hb_wk⟩
          | false =>
            cases e2 with
            | true =>
              have hD : Hid (∀ w', Below wj.drew.heap.size wj.drew w' → w'.cell? ⟨g16, 0, none⟩ = some (.int .i64 z1) ∧ w'.cell? ⟨g16, 1, none⟩ = some (.int .i64 z2) ∧ w'.cell? ⟨g, a * 2, none⟩ = some (.int .i64 a1) ∧ w'.cell? ⟨g, a * 2 + 1, none⟩ = some (.int .i64 a2) ∧ w'.cell? ⟨g, b * 2, none⟩ = some (.int .i64 b1) ∧ w'.cell? ⟨g, b * 2 + 1, none⟩ = some (.int .i64 b2)) := fun w' hw =>
                have hx := hbj.trans ((drew_up hw).mono hbj.size)
                have hB := hG16'.drew.callee hw
                ⟨hB.cell 0, hB.cell 1, (hca.out w' hx).1, (hca.out w' hx).2, (hcb.out w' hx).1, (hcb.out w' hx).2⟩
              refine De.region_det (by kernel_rfl) (by kernel_rfl) ?_
              refine De.Det.read (o := ?o117) (v := ?v117) 0 ?q117 (by kernel_rfl) (by kernel_rfl) ?w117 ?y117 ?h117
              case q117 => (simp only [List.getElem?_toArray, List.getElem?_cons_succ, List.getElem?_cons_zero]; rfl)
              case w117 => kernel_rfl
              case y117 => (intro w' hw'; obtain ⟨c1, c2, c3, c4, c5, c6⟩ := hD.out w' hw'; go_simp; (try with_reducible rfl))
              (try simp only [Act.put, List.setIfInBounds_toArray, List.set_cons_zero, List.set_cons_succ])
              refine De.Det.read (o := ?o118) (v := ?v118) 1 ?q118 (by kernel_rfl) (by kernel_rfl) ?w118 ?y118 ?h118
              case q118 => (simp only [List.getElem?_toArray, List.getElem?_cons_succ, List.getElem?_cons_zero]; rfl)
              case w118 => kernel_rfl
              case y118 => (intro w' hw'; obtain ⟨c1, c2, c3, c4, c5, c6⟩ := hD.out w' hw'; go_simp; (try with_reducible rfl))
              (try simp only [Act.put, List.setIfInBounds_toArray, List.set_cons_zero, List.set_cons_succ])
              refine De.Det.read (o := ?o119) (v := ?v119) 2 ?q119 (by kernel_rfl) (by kernel_rfl) ?w119 ?y119 ?h119
              case q119 => (simp only [List.getElem?_toArray, List.getElem?_cons_succ, List.getElem?_cons_zero]; rfl)
              case w119 => kernel_rfl
              case y119 => (intro w' hw'; obtain ⟨c1, c2, c3, c4, c5, c6⟩ := hD.out w' hw'; go_simp; (try with_reducible rfl))
              (try simp only [Act.put, List.setIfInBounds_toArray, List.set_cons_zero, List.set_cons_succ])
              refine De.Det.read (o := ?o120) (v := ?v120) 3 ?q120 (by kernel_rfl) (by kernel_rfl) ?w120 ?y120 ?h120
              case q120 => (simp only [List.getElem?_toArray, List.getElem?_cons_succ, List.getElem?_cons_zero]; rfl)
              case w120 => kernel_rfl
              case y120 => (intro w' hw'; obtain ⟨c1, c2, c3, c4, c5, c6⟩ := hD.out w' hw'; go_simp; (try with_reducible rfl))
              (try simp only [Act.put, List.setIfInBounds_toArray, List.set_cons_zero, List.set_cons_succ])
              refine De.Det.read (o := ?o121) (v := ?v121) 4 ?q121 (by kernel_rfl) (by kernel_rfl) ?w121 ?y121 ?h121
              case q121 => (simp only [List.getElem?_toArray, List.getElem?_cons_succ, List.getElem?_cons_zero]; rfl)
              case w121 => kernel_rfl
              case y121 => (intro w' hw'; obtain ⟨c1, c2, c3, c4, c5, c6⟩ := hD.out w' hw'; go_simp; (try with_reducible rfl))
              (try simp only [Act.put, List.setIfInBounds_toArray, List.set_cons_zero, List.set_cons_succ])
              refine De.Det.read (o := ?o122) (v := ?v122) 5 ?q122 (by kernel_rfl) (by kernel_rfl) ?w122 ?y122 ?h122
              case q122 => (simp only [List.getElem?_toArray, List.getElem?_cons_succ, List.getElem?_cons_zero]; rfl)
              case w122 => kernel_rfl
              case y122 => (intro w' hw'; obtain ⟨c1, c2, c3, c4, c5, c6⟩ := hD.out w' hw'; go_simp; (try with_reducible rfl))
              (try simp only [Act.put, List.setIfInBounds_toArray, List.set_cons_zero, List.set_cons_succ])
              refine De.Det.read (o := ?o123) (v := ?v123) 6 ?q123 (by kernel_rfl) (by kernel_rfl) ?w123 ?y123 ?h123
              case q123 => (simp only [List.getElem?_toArray, List.getElem?_cons_succ, List.getElem?_cons_zero]; rfl)
              case w123 => kernel_rfl
              case y123 => (intro w' hw'; obtain ⟨c1, c2, c3, c4, c5, c6⟩ := hD.out w' hw'; go_simp; (try with_reducible rfl))
              (try simp only [Act.put, List.setIfInBounds_toArray, List.set_cons_zero, List.set_cons_succ])
              refine De.Det.read (o := ?o124) (v := ?v124) 7 ?q124 (by kernel_rfl) (by kernel_rfl) ?w124 ?y124 ?h124
              case q124 => (simp only [List.getElem?_toArray, List.getElem?_cons_succ, List.getElem?_cons_zero]; rfl)
              case w124 => kernel_rfl
              case y124 => (intro w' hw'; obtain ⟨c1, c2, c3, c4, c5, c6⟩ := hD.out w' hw'; go_simp; (try with_reducible rfl))
              (try simp only [Act.put, List.setIfInBounds_toArray, List.set_cons_zero, List.set_cons_succ])
              refine De.Det.read (o := ?o125) (v := ?v125) 8 ?q125 (by kernel_rfl) (by kernel_rfl) ?w125 ?y125 ?h125
              case q125 => (simp only [List.getElem?_toArray, List.getElem?_cons_succ, List.getElem?_cons_zero]; rfl)
              case w125 => kernel_rfl
              case y125 => (intro w' hw'; obtain ⟨c1, c2, c3, c4, c5, c6⟩ := hD.out w' hw'; go_simp; (try with_reducible rfl))
              (try simp only [Act.put, List.setIfInBounds_toArray, List.set_cons_zero, List.set_cons_succ])
              refine De.Det.read (o := ?o126) (v := ?v126) 9 ?q126 (by kernel_rfl) (by kernel_rfl) ?w126 ?y126 ?h126
              case q126 => (simp only [List.getElem?_toArray, List.getElem?_cons_succ, List.getElem?_cons_zero]; rfl)
              case w126 => kernel_rfl
              case y126 => (intro w' hw'; obtain ⟨c1, c2, c3, c4, c5, c6⟩ := hD.out w' hw'; go_simp; (try with_reducible rfl))
              (try simp only [Act.put, List.setIfInBounds_toArray, List.set_cons_zero, List.set_cons_succ])
              refine De.Det.read (o := ?o127) (v := ?v127) 10 ?q127 (by kernel_rfl) (by kernel_rfl) ?w127 ?y127 ?h127
              case q127 => (simp only [List.getElem?_toArray, List.getElem?_cons_succ, List.getElem?_cons_zero]; rfl)
              case w127 => kernel_rfl
              case y127 => (intro w' hw'; obtain ⟨c1, c2, c3, c4, c5, c6⟩ := hD.out w' hw'; go_simp; (try with_reducible rfl))
              (try simp only [Act.put, List.setIfInBounds_toArray, List.set_cons_zero, List.set_cons_succ])
              refine De.Det.read (o := ?o128) (v := ?v128) 11 ?q128 (by kernel_rfl) (by kernel_rfl) ?w128 ?y128 ?h128
              case q128 => (simp only [List.getElem?_toArray, List.getElem?_cons_succ, List.getElem?_cons_zero]; rfl)
              case w128 => kernel_rfl
              case y128 => (intro w' hw'; obtain ⟨c1, c2, c3, c4, c5, c6⟩ := hD.out w' hw'; go_simp; (try with_reducible rfl))
              (try simp only [Act.put, List.setIfInBounds_toArray, List.set_cons_zero, List.set_cons_succ])
              refine De.Det.read (o := ?o129) (v := ?v129) 12 ?q129 (by kernel_rfl) (by kernel_rfl) ?w129 ?y129 ?h129
              case q129 => (simp only [List.getElem?_toArray, List.getElem?_cons_succ, List.getElem?_cons_zero]; rfl)
              case w129 => kernel_rfl
              case y129 => (intro w' hw'; obtain ⟨c1, c2, c3, c4, c5, c6⟩ := hD.out w' hw'; go_simp; (try with_reducible rfl))
              (try simp only [Act.put, List.setIfInBounds_toArray, List.set_cons_zero, List.set_cons_succ])
              refine De.Det.read (o := ?o130) (v := ?v130) 13 ?q130 (by kernel_rfl) (by kernel_rfl) ?w130 ?y130 ?h130
              case q130 => (simp only [List.getElem?_toArray, List.getElem?_cons_succ, List.getElem?_cons_zero]; rfl)
              case w130 => kernel_rfl
              case y130 => (intro w' hw'; obtain ⟨c1, c2, c3, c4, c5, c6⟩ := hD.out w' hw'; go_simp; (try with_reducible rfl))
              (try simp only [Act.put, List.setIfInBounds_toArray, List.set_cons_zero, List.set_cons_succ])
              refine De.Det.read (o := ?o131) (v := ?v131) 14 ?q131 (by kernel_rfl) (by kernel_rfl) ?w131 ?y131 ?h131
              case q131 => (simp only [List.getElem?_toArray, List.getElem?_cons_succ, List.getElem?_cons_zero]; rfl)
              case w131 => kernel_rfl
              case y131 => (intro w' hw'; obtain ⟨c1, c2, c3, c4, c5, c6⟩ := hD.out w' hw'; go_simp; (try with_reducible rfl))
              (try simp only [Act.put, List.setIfInBounds_toArray, List.set_cons_zero, List.set_cons_succ])
              refine De.Det.read (o := ?o132) (v := ?v132) 15 ?q132 (by kernel_rfl) (by kernel_rfl) ?w132 ?y132 ?h132
              case q132 => (simp only [List.getElem?_toArray, List.getElem?_cons_succ, List.getElem?_cons_zero]; rfl)
              case w132 => kernel_rfl
              case y132 => (intro w' hw'; obtain ⟨c1, c2, c3, c4, c5, c6⟩ := hD.out w' hw'; go_simp; (try with_reducible rfl))
              (try simp only [Act.put, List.setIfInBounds_toArray, List.set_cons_zero, List.set_cons_succ])
              refine De.Det.read (o := ?o133) (v := ?v133) 16 ?q133 (by kernel_rfl) (by kernel_rfl) ?w133 ?y133 ?h133
              case q133 => (simp only [List.getElem?_toArray, List.getElem?_cons_succ, List.getElem?_cons_zero]; rfl)
              case w133 => kernel_rfl
              case y133 => (intro w' hw'; obtain ⟨c1, c2, c3, c4, c5, c6⟩ := hD.out w' hw'; go_simp; (try with_reducible rfl))
              (try simp only [Act.put, List.setIfInBounds_toArray, List.set_cons_zero, List.set_cons_succ])
              refine De.Det.read (o := ?o134) (v := ?v134) 17 ?q134 (by kernel_rfl) (by kernel_rfl) ?w134 ?y134 ?h134
              case q134 => (simp only [List.getElem?_toArray, List.getElem?_cons_succ, List.getElem?_cons_zero]; rfl)
              case w134 => kernel_rfl
              case y134 => (intro w' hw'; obtain ⟨c1, c2, c3, c4, c5, c6⟩ := hD.out w' hw'; go_simp; (try with_reducible rfl))
              (try simp only [Act.put, List.setIfInBounds_toArray, List.set_cons_zero, List.set_cons_succ])
              refine De.Det.base ?_
              refine De.Det2.done (by kernel_rfl) ?_
              rintro wk ⟨hb_wk, hO_wk⟩
              clear hO_wk
              have hbk := hbj.trans ((drew_up hb_wk).mono hbj.size)
              have hbrk := hbrj.trans ((drew_up hb_wk).mono hbrj.size)
              have hGk := hGj.drew.callee hb_wk
              clear hD
              go_wp2_with (fail)
              go_meet
              exact ⟨by rw [← hq.out]; rfl, drew_up hb_wk⟩
            | false =>
              have hD : Hid (∀ w', Below wj.drew.heap.size wj.drew w' → w'.cell? ⟨g16, 0, none⟩ = some (.int .i64 z1) ∧ w'.cell? ⟨g16, 1, none⟩ = some (.int .i64 z2) ∧ w'.cell? ⟨g, a * 2, none⟩ = some (.int .i64 a1) ∧ w'.cell? ⟨g, a * 2 + 1, none⟩ = some (.int .i64 a2) ∧ w'.cell? ⟨g, b * 2, none⟩ = some (.int .i64 b1) ∧ w'.cell? ⟨g, b * 2 + 1, none⟩ = some (.int .i64 b2)) := fun w' hw =>
                have hx := hbj.trans ((drew_up hw).mono hbj.size)
                have hB := hG16'.drew.callee hw
                ⟨hB.cell 0, hB.cell 1, (hca.out w' hx).1, (hca.out w' hx).2, (hcb.out w' hx).1, (hcb.out w' hx).2⟩
              refine De.region_det (by kernel_rfl) (by kernel_rfl) ?_
              refine De.Det.read (o := ?o135) (v := ?v135) 0 ?q135 (by kernel_rfl) (by kernel_rfl) ?w135 ?y135 ?h135
              case q135 => (simp only [List.getElem?_toArray, List.getElem?_cons_succ, List.getElem?_cons_zero]; rfl)
              case w135 => kernel_rfl
              case y135 => (intro w' hw'; obtain ⟨c1, c2, c3, c4, c5, c6⟩ := hD.out w' hw'; go_simp; (try with_reducible rfl))
              (try simp only [Act.put, List.setIfInBounds_toArray, List.set_cons_zero, List.set_cons_succ])
              refine De.Det.read (o := ?o136) (v := ?v136) 1 ?q136 (by kernel_rfl) (by kernel_rfl) ?w136 ?y136 ?h136
              case q136 => (simp only [List.getElem?_toArray, List.getElem?_cons_succ, List.getElem?_cons_zero]; rfl)
              case w136 => kernel_rfl
              case y136 => (intro w' hw'; obtain ⟨c1, c2, c3, c4, c5, c6⟩ := hD.out w' hw'; go_simp; (try with_reducible rfl))
              (try simp only [Act.put, List.setIfInBounds_toArray, List.set_cons_zero, List.set_cons_succ])
              refine De.Det.read (o := ?o137) (v := ?v137) 2 ?q137 (by kernel_rfl) (by kernel_rfl) ?w137 ?y137 ?h137
              case q137 => (simp only [List.getElem?_toArray, List.getElem?_cons_succ, List.getElem?_cons_zero]; rfl)
              case w137 => kernel_rfl
              case y137 => (intro w' hw'; obtain ⟨c1, c2, c3, c4, c5, c6⟩ := hD.out w' hw'; go_simp; (try with_reducible rfl))
              (try simp only [Act.put, List.setIfInBounds_toArray, List.set_cons_zero, List.set_cons_succ])
              refine De.Det.read (o := ?o138) (v := ?v138) 3 ?q138 (by kernel_rfl) (by kernel_rfl) ?w138 ?y138 ?h138
              case q138 => (simp only [List.getElem?_toArray, List.getElem?_cons_succ, List.getElem?_cons_zero]; rfl)
              case w138 => kernel_rfl
              case y138 => (intro w' hw'; obtain ⟨c1, c2, c3, c4, c5, c6⟩ := hD.out w' hw'; go_simp; (try with_reducible rfl))
              (try simp only [Act.put, List.setIfInBounds_toArray, List.set_cons_zero, List.set_cons_succ])
              refine De.Det.read (o := ?o139) (v := ?v139) 4 ?q139 (by kernel_rfl) (by kernel_rfl) ?w139 ?y139 ?h139
              case q139 => (simp only [List.getElem?_toArray, List.getElem?_cons_succ, List.getElem?_cons_zero]; rfl)
              case w139 => kernel_rfl
              case y139 => (intro w' hw'; obtain ⟨c1, c2, c3, c4, c5, c6⟩ := hD.out w' hw'; go_simp; (try with_reducible rfl))
              (try simp only [Act.put, List.setIfInBounds_toArray, List.set_cons_zero, List.set_cons_succ])
              refine De.Det.read (o := ?o140) (v := ?v140) 5 ?q140 (by kernel_rfl) (by kernel_rfl) ?w140 ?y140 ?h140
              case q140 => (simp only [List.getElem?_toArray, List.getElem?_cons_succ, List.getElem?_cons_zero]; rfl)
              case w140 => kernel_rfl
              case y140 => (intro w' hw'; obtain ⟨c1, c2, c3, c4, c5, c6⟩ := hD.out w' hw'; go_simp; (try with_reducible rfl))
              (try simp only [Act.put, List.setIfInBounds_toArray, List.set_cons_zero, List.set_cons_succ])
              refine De.Det.read (o := ?o141) (v := ?v141) 6 ?q141 (by kernel_rfl) (by kernel_rfl) ?w141 ?y141 ?h141
              case q141 => (simp only [List.getElem?_toArray, List.getElem?_cons_succ, List.getElem?_cons_zero]; rfl)
              case w141 => kernel_rfl
              case y141 => (intro w' hw'; obtain ⟨c1, c2, c3, c4, c5, c6⟩ := hD.out w' hw'; go_simp; (try with_reducible rfl))
              (try simp only [Act.put, List.setIfInBounds_toArray, List.set_cons_zero, List.set_cons_succ])
              refine De.Det.read (o := ?o142) (v := ?v142) 7 ?q142 (by kernel_rfl) (by kernel_rfl) ?w142 ?y142 ?h142
              case q142 => (simp only [List.getElem?_toArray, List.getElem?_cons_succ, List.getElem?_cons_zero]; rfl)
              case w142 => kernel_rfl
              case y142 => (intro w' hw'; obtain ⟨c1, c2, c3, c4, c5, c6⟩ := hD.out w' hw'; go_simp; (try with_reducible rfl))
              (try simp only [Act.put, List.setIfInBounds_toArray, List.set_cons_zero, List.set_cons_succ])
              refine De.Det.read (o := ?o143) (v := ?v143) 8 ?q143 (by kernel_rfl) (by kernel_rfl) ?w143 ?y143 ?h143
              case q143 => (simp only [List.getElem?_toArray, List.getElem?_cons_succ, List.getElem?_cons_zero]; rfl)
              case w143 => kernel_rfl
              case y143 => (intro w' hw'; obtain ⟨c1, c2, c3, c4, c5, c6⟩ := hD.out w' hw'; go_simp; (try with_reducible rfl))
              (try simp only [Act.put, List.setIfInBounds_toArray, List.set_cons_zero, List.set_cons_succ])
              refine De.Det.read (o := ?o144) (v := ?v144) 9 ?q144 (by kernel_rfl) (by kernel_rfl) ?w144 ?y144 ?h144
              case q144 => (simp only [List.getElem?_toArray, List.getElem?_cons_succ, List.getElem?_cons_zero]; rfl)
              case w144 => kernel_rfl
              case y144 => (intro w' hw'; obtain ⟨c1, c2, c3, c4, c5, c6⟩ := hD.out w' hw'; go_simp; (try with_reducible rfl))
              (try simp only [Act.put, List.setIfInBounds_toArray, List.set_cons_zero, List.set_cons_succ])
              refine De.Det.read (o := ?o145) (v := ?v145) 10 ?q145 (by kernel_rfl) (by kernel_rfl) ?w145 ?y145 ?h145
              case q145 => (simp only [List.getElem?_toArray, List.getElem?_cons_succ, List.getElem?_cons_zero]; rfl)
              case w145 => kernel_rfl
              case y145 => (intro w' hw'; obtain ⟨c1, c2, c3, c4, c5, c6⟩ := hD.out w' hw'; go_simp; (try with_reducible rfl))
              (try simp only [Act.put, List.setIfInBounds_toArray, List.set_cons_zero, List.set_cons_succ])
              refine De.Det.read (o := ?o146) (v := ?v146) 11 ?q146 (by kernel_rfl) (by kernel_rfl) ?w146 ?y146 ?h146
              case q146 => (simp only [List.getElem?_toArray, List.getElem?_cons_succ, List.getElem?_cons_zero]; rfl)
              case w146 => kernel_rfl
              case y146 => (intro w' hw'; obtain ⟨c1, c2, c3, c4, c5, c6⟩ := hD.out w' hw'; go_simp; (try with_reducible rfl))
              (try simp only [Act.put, List.setIfInBounds_toArray, List.set_cons_zero, List.set_cons_succ])
              refine De.Det.read (o := ?o147) (v := ?v147) 12 ?q147 (by kernel_rfl) (by kernel_rfl) ?w147 ?y147 ?h147
              case q147 => (simp only [List.getElem?_toArray, List.getElem?_cons_succ, List.getElem?_cons_zero]; rfl)
              case w147 => kernel_rfl
              case y147 => (intro w' hw'; obtain ⟨c1, c2, c3, c4, c5, c6⟩ := hD.out w' hw'; go_simp; (try with_reducible rfl))
              (try simp only [Act.put, List.setIfInBounds_toArray, List.set_cons_zero, List.set_cons_succ])
              refine De.Det.read (o := ?o148) (v := ?v148) 13 ?q148 (by kernel_rfl) (by kernel_rfl) ?w148 ?y148 ?h148
              case q148 => (simp only [List.getElem?_toArray, List.getElem?_cons_succ, List.getElem?_cons_zero]; rfl)
              case w148 => kernel_rfl
              case y148 => (intro w' hw'; obtain ⟨c1, c2, c3, c4, c5, c6⟩ := hD.out w' hw'; go_simp; (try with_reducible rfl))
              (try simp only [Act.put, List.setIfInBounds_toArray, List.set_cons_zero, List.set_cons_succ])
              refine De.Det.read (o := ?o149) (v := ?v149) 14 ?q149 (by kernel_rfl) (by kernel_rfl) ?w149 ?y149 ?h149
              case q149 => (simp only [List.getElem?_toArray, List.getElem?_cons_succ, List.getElem?_cons_zero]; rfl)
              case w149 => kernel_rfl
              case y149 => (intro w' hw'; obtain ⟨c1, c2, c3, c4, c5, c6⟩ := hD.out w' hw'; go_simp; (try with_reducible rfl))
              (try simp only [Act.put, List.setIfInBounds_toArray, List.set_cons_zero, List.set_cons_succ])
              refine De.Det.read (o := ?o150) (v := ?v150) 15 ?q150 (by kernel_rfl) (by kernel_rfl) ?w150 ?y150 ?h150
              case q150 => (simp only [List.getElem?_toArray, List.getElem?_cons_succ, List.getElem?_cons_zero]; rfl)
              case w150 => kernel_rfl
              case y150 => (intro w' hw'; obtain ⟨c1, c2, c3, c4, c5, c6⟩ := hD.out w' hw'; go_simp; (try with_reducible rfl))
              (try simp only [Act.put, List.setIfInBounds_toArray, List.set_cons_zero, List.set_cons_succ])
              refine De.Det.read (o := ?o151) (v := ?v151) 16 ?q151 (by kernel_rfl) (by kernel_rfl) ?w151 ?y151 ?h151
              case q151 => (simp only [List.getElem?_toArray, List.getElem?_cons_succ, List.getElem?_cons_zero]; rfl)
              case w151 => kernel_rfl
              case y151 => (intro w' hw'; obtain ⟨c1, c2, c3, c4, c5, c6⟩ := hD.out w' hw'; go_simp; (try with_reducible rfl))
              (try simp only [Act.put, List.setIfInBounds_toArray, List.set_cons_zero, List.set_cons_succ])
              refine De.Det.read (o := ?o152) (v := ?v152) 17 ?q152 (by kernel_rfl) (by kernel_rfl) ?w152 ?y152 ?h152
              case q152 => (simp only [List.getElem?_toArray, List.getElem?_cons_succ, List.getElem?_cons_zero]; rfl)
              case w152 => kernel_rfl
              case y152 => (intro w' hw'; obtain ⟨c1, c2, c3, c4, c5, c6⟩ := hD.out w' hw'; go_simp; (try with_reducible rfl))
              (try simp only [Act.put, List.setIfInBounds_toArray, List.set_cons_zero, List.set_cons_succ])
              refine De.Det.base ?_
              refine De.Det2.done (by kernel_rfl) ?_
              rintro wk ⟨hb_wk, hO_wk⟩
              clear hO_wk
              have hbk := hbj.trans ((drew_up hb_wk).mono hbj.size)
              have hbrk := hbrj.trans ((drew_up hb_wk).mono hbrj.size)
              have hGk := hGj.drew.callee hb_wk
              clear hD
              go_wp2_with (fail)
              go_meet
              exact ⟨by rw [← hq.out]; rfl, drew_up hb_wk⟩
        case rest =>
        obtain ⟨rfl, hbq⟩ := hcut
        obtain ⟨wk, hwk⟩ : ∃ x, x = wc := ⟨_, rfl⟩
        subst hwk
        have hbk := hbj.trans (hbq.mono hbj.size)
        have hbrk := hbrj.trans (hbq.mono hbrj.size)
        have hGk := hGj.callee hbq
        clear hbq hbj hbrj hGj hbi hbri hGi hG16 hG16' hgri hgrj E1 E2 hq
        cases QZ with
        | false =>
          go_wp2_with (fail)
          go_ret
          exact ⟨ret_bool (hbad.out (by (rw [← hL.out]) <;> simp)).symm, hbk⟩
        | true =>
        go_wp2_with (first
          | (go_at_call 18; (with_reducible refine (sd.out _ hbk).mono ?_); rintro e wl ⟨rfl, hb_wl⟩
             have hbl := hbk.trans (hb_wl.mono hbk.size)
             have hbrl := hbrk.trans (hb_wl.mono hbrk.size)
             have hGll := hGk.callee hb_wl)
          | (with_reducible show wpList _ _ _ (⟨_, .alloc 52, _, _, _, _⟩ :: _) _ _
             refine wpList_alloc_blk rfl 52 rfl _ zero_side ?_
             intro wm g18 hG18 hgrm hgem
             have hbm := below_none hbl hgrm hbl.size
             have hbrm := below_none hbrl hgrm hbrl.size
             have hGm := hGll.none_ hgrm)
          | (with_reducible show wpList _ _ _ (⟨_, .store 52 _ _, _, _, _, _⟩ :: _) _ _
             refine wpList_store_blk rfl 52 _ _ rfl g18 #[.int .i64 p1, .int .i64 p2, .int .i64 r1, .int .i64 r2] rfl rfl 52 _ hG18 info_side rfl (by simp [Value.oneCell']) ?_
             intro wn hG18' hgrn
             have hbn := below_some hbm hgrn hbm.size (by have := hbl.size; omega)
             have hbrn := below_some hbrm hgrn hbrm.size (by have := hbrl.size; omega)
             have hGn := hGm.some_ hgrn (by have := hGll.lt; omega)))
        have hE : Hid (∀ w', Below wn.drew.heap.size wn.drew w' → w'.cell? ⟨g18, 0, none⟩ = some (.int .i64 p1) ∧ w'.cell? ⟨g18, 1, none⟩ = some (.int .i64 p2) ∧ w'.cell? ⟨g18, 2, none⟩ = some (.int .i64 r1) ∧ w'.cell? ⟨g18, 3, none⟩ = some (.int .i64 r2) ∧ w'.cell? ⟨g, a * 2, none⟩ = some (.int .i64 a1) ∧ w'.cell? ⟨g, a * 2 + 1, none⟩ = some (.int .i64 a2) ∧ w'.cell? ⟨g, b * 2, none⟩ = some (.int .i64 b1) ∧ w'.cell? ⟨g, b * 2 + 1, none⟩ = some (.int .i64 b2) ∧ w'.cell? ⟨g13, 0, none⟩ = some (.int .i64 a1) ∧ w'.cell? ⟨g13, 1, none⟩ = some (.int .i64 a2) ∧ w'.cell? ⟨g13, 2, none⟩ = some (.int .i64 b1) ∧ w'.cell? ⟨g13, 3, none⟩ = some (.int .i64 b2)) := fun w' hw =>
          have hx := hbn.trans ((drew_up hw).mono hbn.size)
          have hB := hG18'.drew.callee hw
          have hB2 := hGn.drew.callee hw
          ⟨hB.cell 0, hB.cell 1, hB.cell 2, hB.cell 3, (hca.out w' hx).1, (hca.out w' hx).2, (hcb.out w' hx).1, (hcb.out w' hx).2, hB2.cell 0, hB2.cell 1, hB2.cell 2, hB2.cell 3⟩
        replace G1 := G1.out
        replace G2 := G2.out
        replace G3 := G3.out
        replace G4 := G4.out
        obtain ⟨g16, hg16⟩ : ∃ g, Hid ((d1 && d2) = g) := ⟨_, rfl⟩
        obtain ⟨m22, hm22⟩ : ∃ g, Hid ((g16 && y0) = !g) := ⟨!(g16 && y0), (Bool.not_not _).symm⟩
        obtain ⟨g30, hg30⟩ : ∃ g, Hid ((m22 && d3) = g) := ⟨_, rfl⟩
        obtain ⟨q38, hq38⟩ : ∃ g, Hid ((d3 && d4) = g) := ⟨_, rfl⟩
        obtain ⟨g39, hg39⟩ : ∃ g, Hid ((m22 && q38) = g) := ⟨_, rfl⟩
        obtain ⟨q44, hq44⟩ : ∃ g, Hid ((q38 && y1) = g) := ⟨_, rfl⟩
        obtain ⟨R, hR⟩ : ∃ g, Hid ((!m22 || q44) = g) := ⟨_, rfl⟩
        have hLR : Hid ((!R) = L) := by
          have := hL.out
          rw [Hid, ← hR.out, ← hm22.out, ← hq44.out, ← hq38.out, ← hg16.out, ← this]
          simp
        simp only [Act.put, List.setIfInBounds_toArray, List.set_cons_succ, List.set_cons_zero]
        go_cut [184] from 139 to 184 (fun v wx => v = .bool R ∧ Below wn.heap.size wn wx)
        case first =>
          rename_i J' K' hJ' hK'
          refine De.region_det (by kernel_rfl) (by kernel_rfl) ?_
          refine De.Det.read (o := ?o153) (v := ?v153) 0 ?q153 (by kernel_rfl) (by kernel_rfl) ?w153 ?y153 ?h153
          case q153 => (simp only [List.getElem?_toArray, List.getElem?_cons_succ, List.getElem?_cons_zero]; rfl)
          case w153 => kernel_rfl
          case y153 => (intro w' hw'; obtain ⟨c1, c2, c3, c4, c5, c6, c7, c8, c9, c10, c11, c12⟩ := hE.out w' hw'; go_simp; (try with_reducible rfl))
          (try simp only [Act.put, List.setIfInBounds_toArray, List.set_cons_zero, List.set_cons_succ])
          refine De.Det.read (o := ?o154) (v := ?v154) 1 ?q154 (by kernel_rfl) (by kernel_rfl) ?w154 ?y154 ?h154
          case q154 => (simp only [List.getElem?_toArray, List.getElem?_cons_succ, List.getElem?_cons_zero]; rfl)
          case w154 => kernel_rfl
          case y154 => (intro w' hw'; obtain ⟨c1, c2, c3, c4, c5, c6, c7, c8, c9, c10, c11, c12⟩ := hE.out w' hw'; go_simp; (try with_reducible rfl))
          (try simp only [Act.put, List.setIfInBounds_toArray, List.set_cons_zero, List.set_cons_succ])
          refine De.Det.read (o := ?o155) (v := ?v155) 2 ?q155 (by kernel_rfl) (by kernel_rfl) ?w155 ?y155 ?h155
          case q155 => (simp only [List.getElem?_toArray, List.getElem?_cons_succ, List.getElem?_cons_zero]; rfl)
          case w155 => kernel_rfl
          case y155 => (intro w' hw'; obtain ⟨c1, c2, c3, c4, c5, c6, c7, c8, c9, c10, c11, c12⟩ := hE.out w' hw'; go_simp; (try with_reducible rfl))
          (try simp only [Act.put, List.setIfInBounds_toArray, List.set_cons_zero, List.set_cons_succ])
          refine De.Det.read (o := ?o156) (v := ?v156) 3 ?q156 (by kernel_rfl) (by kernel_rfl) ?w156 ?y156 ?h156
          case q156 => (simp only [List.getElem?_toArray, List.getElem?_cons_succ, List.getElem?_cons_zero]; rfl)
          case w156 => kernel_rfl
          case y156 => (intro w' hw'; obtain ⟨c1, c2, c3, c4, c5, c6, c7, c8, c9, c10, c11, c12⟩ := hE.out w' hw'; go_simp; (try with_reducible rfl))
          (try simp only [Act.put, List.setIfInBounds_toArray, List.set_cons_zero, List.set_cons_succ])
          refine De.Det.read (o := ?o157) (v := ?v157) 4 ?q157 (by kernel_rfl) (by kernel_rfl) ?w157 ?y157 ?h157
          case q157 => (simp only [List.getElem?_toArray, List.getElem?_cons_succ, List.getElem?_cons_zero]; rfl)
          case w157 => kernel_rfl
          case y157 => (intro w' hw'; obtain ⟨c1, c2, c3, c4, c5, c6, c7, c8, c9, c10, c11, c12⟩ := hE.out w' hw'; go_simp; (try with_reducible rfl))
          (try simp only [Act.put, List.setIfInBounds_toArray, List.set_cons_zero, List.set_cons_succ])
          refine De.Det.read (o := ?o158) (v := ?v158) 5 ?q158 (by kernel_rfl) (by kernel_rfl) ?w158 ?y158 ?h158
          case q158 => (simp only [List.getElem?_toArray, List.getElem?_cons_succ, List.getElem?_cons_zero]; rfl)
          case w158 => kernel_rfl
          case y158 => (intro w' hw'; obtain ⟨c1, c2, c3, c4, c5, c6, c7, c8, c9, c10, c11, c12⟩ := hE.out w' hw'; go_simp; (try with_reducible rfl))
          (try simp only [Act.put, List.setIfInBounds_toArray, List.set_cons_zero, List.set_cons_succ])
          refine De.Det.read (o := ?o159) (v := ?v159) 6 ?q159 (by kernel_rfl) (by kernel_rfl) ?w159 ?y159 ?h159
          case q159 => (simp only [List.getElem?_toArray, List.getElem?_cons_succ, List.getElem?_cons_zero]; rfl)
          case w159 => kernel_rfl
          case y159 => (intro w' hw'; obtain ⟨c1, c2, c3, c4, c5, c6, c7, c8, c9, c10, c11, c12⟩ := hE.out w' hw'; go_simp; (try with_reducible rfl))
          (try simp only [Act.put, List.setIfInBounds_toArray, List.set_cons_zero, List.set_cons_succ])
          refine De.Det.read (o := ?o160) (v := ?v160) 7 ?q160 (by kernel_rfl) (by kernel_rfl) ?w160 ?y160 ?h160
          case q160 => (simp only [List.getElem?_toArray, List.getElem?_cons_succ, List.getElem?_cons_zero]; rfl)
          case w160 => kernel_rfl
          case y160 => (intro w' hw'; obtain ⟨c1, c2, c3, c4, c5, c6, c7, c8, c9, c10, c11, c12⟩ := hE.out w' hw'; go_simp; (try with_reducible rfl))
          (try simp only [Act.put, List.setIfInBounds_toArray, List.set_cons_zero, List.set_cons_succ])
          refine De.Det.guard (o := ?o161) (v := ?v161) 8 d1 ?q161 (by kernel_rfl) (by kernel_rfl) ?w161 ?y161 ?h161
          case q161 => (simp only [List.getElem?_toArray, List.getElem?_cons_succ, List.getElem?_cons_zero]; rfl)
          case w161 => (cases d1 <;> kernel_rfl)
          case y161 => (intro hb w' hw'; obtain ⟨c1, c2, c3, c4, c5, c6, c7, c8, c9, c10, c11, c12⟩ := hE.out w' hw'; go_simp; (try with_reducible rfl))
          (try simp only [Act.put, List.setIfInBounds_toArray, List.set_cons_zero, List.set_cons_succ])
          refine De.Det.guard (o := ?o162) (v := ?v162) 9 d1 ?q162 (by kernel_rfl) (by kernel_rfl) ?w162 ?y162 ?h162
          case q162 => (simp only [List.getElem?_toArray, List.getElem?_cons_succ, List.getElem?_cons_zero]; rfl)
          case w162 => (cases d1 <;> kernel_rfl)
          case y162 => (intro hb w' hw'; obtain ⟨c1, c2, c3, c4, c5, c6, c7, c8, c9, c10, c11, c12⟩ := hE.out w' hw'; go_simp; (try with_reducible rfl))
          (try simp only [Act.put, List.setIfInBounds_toArray, List.set_cons_zero, List.set_cons_succ])
          refine De.Det.guard (o := ?o163) (v := ?v163) 10 d1 ?q163 (by kernel_rfl) (by kernel_rfl) ?w163 ?y163 ?h163
          case q163 => (simp only [List.getElem?_toArray, List.getElem?_cons_succ, List.getElem?_cons_zero]; rfl)
          case w163 => (cases d1 <;> kernel_rfl)
          case y163 => (intro hb w' hw'; obtain ⟨c1, c2, c3, c4, c5, c6, c7, c8, c9, c10, c11, c12⟩ := hE.out w' hw'; go_simp; (try with_reducible rfl))
          (try simp only [Act.put, List.setIfInBounds_toArray, List.set_cons_zero, List.set_cons_succ])
          refine De.Det.guard (o := ?o164) (v := ?v164) 11 d1 ?q164 (by kernel_rfl) (by kernel_rfl) ?w164 ?y164 ?h164
          case q164 => (simp only [List.getElem?_toArray, List.getElem?_cons_succ, List.getElem?_cons_zero]; rfl)
          case w164 => (cases d1 <;> kernel_rfl)
          case y164 => (intro hb w' hw'; obtain ⟨c1, c2, c3, c4, c5, c6, c7, c8, c9, c10, c11, c12⟩ := hE.out w' hw'; go_simp; (try with_reducible rfl))
          (try simp only [Act.put, List.setIfInBounds_toArray, List.set_cons_zero, List.set_cons_succ])
          refine De.Det.guard (o := ?o165) (v := ?v165) 12 d1 ?q165 (by kernel_rfl) (by kernel_rfl) ?w165 ?y165 ?h165
          case q165 => (simp only [List.getElem?_toArray, List.getElem?_cons_succ, List.getElem?_cons_zero]; rfl)
          case w165 => (cases d1 <;> kernel_rfl)
          case y165 => (intro hb w' hw'; obtain ⟨c1, c2, c3, c4, c5, c6, c7, c8, c9, c10, c11, c12⟩ := hE.out w' hw'; go_simp; (try with_reducible rfl))
          (try simp only [Act.put, List.setIfInBounds_toArray, List.set_cons_zero, List.set_cons_succ])
          refine De.Det.guard (o := ?o166) (v := ?v166) 13 d1 ?q166 (by kernel_rfl) (by kernel_rfl) ?w166 ?y166 ?h166
          case q166 => (simp only [List.getElem?_toArray, List.getElem?_cons_succ, List.getElem?_cons_zero]; rfl)
          case w166 => (cases d1 <;> kernel_rfl)
          case y166 => (intro hb w' hw'; obtain ⟨c1, c2, c3, c4, c5, c6, c7, c8, c9, c10, c11, c12⟩ := hE.out w' hw'; go_simp; (try with_reducible rfl))
          (try simp only [Act.put, List.setIfInBounds_toArray, List.set_cons_zero, List.set_cons_succ])
          refine De.Det.guard (o := ?o167) (v := ?v167) 14 d1 ?q167 (by kernel_rfl) (by kernel_rfl) ?w167 ?y167 ?h167
          case q167 => (simp only [List.getElem?_toArray, List.getElem?_cons_succ, List.getElem?_cons_zero]; rfl)
          case w167 => (cases d1 <;> kernel_rfl)
          case y167 => (intro hb w' hw'; obtain ⟨c1, c2, c3, c4, c5, c6, c7, c8, c9, c10, c11, c12⟩ := hE.out w' hw'; go_simp; (try with_reducible rfl))
          (try simp only [Act.put, List.setIfInBounds_toArray, List.set_cons_zero, List.set_cons_succ])
          refine De.Det.read (o := ?o168) (v := .bool g16) 15 ?q168 (by kernel_rfl) (by kernel_rfl) ?w168 ?y168 ?h168
          case q168 => (simp only [List.getElem?_toArray, List.getElem?_cons_succ, List.getElem?_cons_zero]; rfl)
          case w168 => kernel_rfl
          case y168 => (intro w' hw'; rw [← hg16.out]; cases d1 <;> go_simp)
          (try simp only [Act.put, List.setIfInBounds_toArray, List.set_cons_zero, List.set_cons_succ])
          refine De.Det.read (o := ?o169) (v := .bool g16) 16 ?q169 (by kernel_rfl) (by kernel_rfl) ?w169 ?y169 ?h169
          case q169 => (simp only [List.getElem?_toArray, List.getElem?_cons_succ, List.getElem?_cons_zero]; rfl)
          case w169 => kernel_rfl
          case y169 => (intro w' hw'; go_simp)
          (try simp only [Act.put, List.setIfInBounds_toArray, List.set_cons_zero, List.set_cons_succ])
          refine De.Det.guard (o := ?o170) (v := ?v170) 17 g16 ?q170 (by kernel_rfl) (by kernel_rfl) ?w170 ?y170 ?h170
          case q170 => (simp only [List.getElem?_toArray, List.getElem?_cons_succ, List.getElem?_cons_zero]; rfl)
          case w170 => (cases g16 <;> kernel_rfl)
          case y170 => (intro hb w' hw'; obtain ⟨c1, c2, c3, c4, c5, c6, c7, c8, c9, c10, c11, c12⟩ := hE.out w' hw'; go_simp; (try with_reducible rfl))
          (try simp only [Act.put, List.setIfInBounds_toArray, List.set_cons_zero, List.set_cons_succ])
          refine De.Det.guard (o := ?o171) (v := ?v171) 18 g16 ?q171 (by kernel_rfl) (by kernel_rfl) ?w171 ?y171 ?h171
          case q171 => (simp only [List.getElem?_toArray, List.getElem?_cons_succ, List.getElem?_cons_zero]; rfl)
          case w171 => (cases g16 <;> kernel_rfl)
          case y171 => (intro hb w' hw'; obtain ⟨c1, c2, c3, c4, c5, c6, c7, c8, c9, c10, c11, c12⟩ := hE.out w' hw'; go_simp; (try with_reducible rfl))
          (try simp only [Act.put, List.setIfInBounds_toArray, List.set_cons_zero, List.set_cons_succ])
          refine De.Det.guard (o := ?o172) (v := ?v172) 19 g16 ?q172 (by kernel_rfl) (by kernel_rfl) ?w172 ?y172 ?h172
          case q172 => (simp only [List.getElem?_toArray, List.getElem?_cons_succ, List.getElem?_cons_zero]; rfl)
          case w172 => (cases g16 <;> kernel_rfl)
          case y172 => (intro hb w' hw'; obtain ⟨c1, c2, c3, c4, c5, c6, c7, c8, c9, c10, c11, c12⟩ := hE.out w' hw'; go_simp; (try with_reducible rfl))
          (try simp only [Act.put, List.setIfInBounds_toArray, List.set_cons_zero, List.set_cons_succ])
          refine De.Det.gcall (o := ?o173) (v := ?v173) (f := ?f173) (args := ?g173) 20 g16 ?q173 (by kernel_rfl) (by kernel_rfl) ?w173 ?e173 ?c173 ?h173
          case q173 => (simp only [List.getElem?_toArray, List.getElem?_cons_succ, List.getElem?_cons_zero]; rfl)
          case w173 => (cases g16 <;> kernel_rfl)
          case e173 => (intro hb w'; go_simp; refine ⟨?_, ?_⟩ <;> with_reducible rfl)
          case c173 => (intro hb w' hw'; subst hb; exact hs0.out w')
          (try simp only [Act.put, List.setIfInBounds_toArray, List.set_cons_zero, List.set_cons_succ])
          refine De.Det.read (o := ?o174) (v := .bool (!m22)) 21 ?q174 (by kernel_rfl) (by kernel_rfl) ?w174 ?y174 ?h174
          case q174 => (simp only [List.getElem?_toArray, List.getElem?_cons_succ, List.getElem?_cons_zero]; rfl)
          case w174 => kernel_rfl
          case y174 => (intro w' hw'; rw [← hm22.out]; cases g16 <;> go_simp)
          (try simp only [Act.put, List.setIfInBounds_toArray, List.set_cons_zero, List.set_cons_succ])
          refine De.Det.read (o := ?o175) (v := .bool (!m22)) 22 ?q175 (by kernel_rfl) (by kernel_rfl) ?w175 ?y175 ?h175
          case q175 => (simp only [List.getElem?_toArray, List.getElem?_cons_succ, List.getElem?_cons_zero]; rfl)
          case w175 => kernel_rfl
          case y175 => (intro w' hw'; go_simp)
          (try simp only [Act.put, List.setIfInBounds_toArray, List.set_cons_zero, List.set_cons_succ])
          refine De.Det.guard (o := ?o176) (v := ?v176) 23 m22 ?q176 (by kernel_rfl) (by kernel_rfl) ?w176 ?y176 ?h176
          case q176 => (simp only [List.getElem?_toArray, List.getElem?_cons_succ, List.getElem?_cons_zero]; rfl)
          case w176 => (cases m22 <;> kernel_rfl)
          case y176 => (intro hb w' hw'; obtain ⟨c1, c2, c3, c4, c5, c6, c7, c8, c9, c10, c11, c12⟩ := hE.out w' hw'; go_simp; (try with_reducible rfl))
          (try simp only [Act.put, List.setIfInBounds_toArray, List.set_cons_zero, List.set_cons_succ])
          refine De.Det.guard (o := ?o177) (v := ?v177) 24 m22 ?q177 (by kernel_rfl) (by kernel_rfl) ?w177 ?y177 ?h177
          case q177 => (simp only [List.getElem?_toArray, List.getElem?_cons_succ, List.getElem?_cons_zero]; rfl)
          case w177 => (cases m22 <;> kernel_rfl)
          case y177 => (intro hb w' hw'; obtain ⟨c1, c2, c3, c4, c5, c6, c7, c8, c9, c10, c11, c12⟩ := hE.out w' hw'; go_simp; (try with_reducible rfl))
          (try simp only [Act.put, List.setIfInBounds_toArray, List.set_cons_zero, List.set_cons_succ])
          refine De.Det.guard (o := ?o178) (v := ?v178) 25 m22 ?q178 (by kernel_rfl) (by kernel_rfl) ?w178 ?y178 ?h178
          case q178 => (simp only [List.getElem?_toArray, List.getElem?_cons_succ, List.getElem?_cons_zero]; rfl)
          case w178 => (cases m22 <;> kernel_rfl)
          case y178 => (intro hb w' hw'; obtain ⟨c1, c2, c3, c4, c5, c6, c7, c8, c9, c10, c11, c12⟩ := hE.out w' hw'; go_simp; (try with_reducible rfl))
          (try simp only [Act.put, List.setIfInBounds_toArray, List.set_cons_zero, List.set_cons_succ])
          refine De.Det.guard (o := ?o179) (v := ?v179) 26 m22 ?q179 (by kernel_rfl) (by kernel_rfl) ?w179 ?y179 ?h179
          case q179 => (simp only [List.getElem?_toArray, List.getElem?_cons_succ, List.getElem?_cons_zero]; rfl)
          case w179 => (cases m22 <;> kernel_rfl)
          case y179 => (intro hb w' hw'; obtain ⟨c1, c2, c3, c4, c5, c6, c7, c8, c9, c10, c11, c12⟩ := hE.out w' hw'; go_simp; (try with_reducible rfl))
          (try simp only [Act.put, List.setIfInBounds_toArray, List.set_cons_zero, List.set_cons_succ])
          refine De.Det.guard (o := ?o180) (v := ?v180) 27 m22 ?q180 (by kernel_rfl) (by kernel_rfl) ?w180 ?y180 ?h180
          case q180 => (simp only [List.getElem?_toArray, List.getElem?_cons_succ, List.getElem?_cons_zero]; rfl)
          case w180 => (cases m22 <;> kernel_rfl)
          case y180 => (intro hb w' hw'; obtain ⟨c1, c2, c3, c4, c5, c6, c7, c8, c9, c10, c11, c12⟩ := hE.out w' hw'; go_simp; (try with_reducible rfl))
          (try simp only [Act.put, List.setIfInBounds_toArray, List.set_cons_zero, List.set_cons_succ])
          refine De.Det.guard (o := ?o181) (v := ?v181) 28 m22 ?q181 (by kernel_rfl) (by kernel_rfl) ?w181 ?y181 ?h181
          case q181 => (simp only [List.getElem?_toArray, List.getElem?_cons_succ, List.getElem?_cons_zero]; rfl)
          case w181 => (cases m22 <;> kernel_rfl)
          case y181 => (intro hb w' hw'; obtain ⟨c1, c2, c3, c4, c5, c6, c7, c8, c9, c10, c11, c12⟩ := hE.out w' hw'; go_simp; (try with_reducible rfl))
          (try simp only [Act.put, List.setIfInBounds_toArray, List.set_cons_zero, List.set_cons_succ])
          refine De.Det.guard (o := ?o182) (v := ?v182) 29 m22 ?q182 (by kernel_rfl) (by kernel_rfl) ?w182 ?y182 ?h182
          case q182 => (simp only [List.getElem?_toArray, List.getElem?_cons_succ, List.getElem?_cons_zero]; rfl)
          case w182 => (cases m22 <;> kernel_rfl)
          case y182 => (intro hb w' hw'; obtain ⟨c1, c2, c3, c4, c5, c6, c7, c8, c9, c10, c11, c12⟩ := hE.out w' hw'; go_simp; (try with_reducible rfl))
          (try simp only [Act.put, List.setIfInBounds_toArray, List.set_cons_zero, List.set_cons_succ])
          refine De.Det.guard (o := ?o183) (v := ?v183) 30 m22 ?q183 (by kernel_rfl) (by kernel_rfl) ?w183 ?y183 ?h183
          case q183 => (simp only [List.getElem?_toArray, List.getElem?_cons_succ, List.getElem?_cons_zero]; rfl)
          case w183 => (cases m22 <;> kernel_rfl)
          case y183 => (intro hb w' hw'; obtain ⟨c1, c2, c3, c4, c5, c6, c7, c8, c9, c10, c11, c12⟩ := hE.out w' hw'; go_simp; (try with_reducible rfl))
          (try simp only [Act.put, List.setIfInBounds_toArray, List.set_cons_zero, List.set_cons_succ])
          refine De.Det.guard (o := ?o184) (v := ?v184) 31 g30 ?q184 (by kernel_rfl) (by kernel_rfl) ?w184 ?y184 ?h184
          case q184 => (simp only [List.getElem?_toArray, List.getElem?_cons_succ, List.getElem?_cons_zero]; rfl)
          case w184 => (rw [← hg30.out]; cases m22 <;> cases d3 <;> kernel_rfl)
          case y184 => (intro hb w' hw'; obtain ⟨c1, c2, c3, c4, c5, c6, c7, c8, c9, c10, c11, c12⟩ := hE.out w' hw'; go_simp; (try with_reducible rfl))
          (try simp only [Act.put, List.setIfInBounds_toArray, List.set_cons_zero, List.set_cons_succ])
          refine De.Det.guard (o := ?o185) (v := ?v185) 32 g30 ?q185 (by kernel_rfl) (by kernel_rfl) ?w185 ?y185 ?h185
          case q185 => (simp only [List.getElem?_toArray, List.getElem?_cons_succ, List.getElem?_cons_zero]; rfl)
          case w185 => (rw [← hg30.out]; cases m22 <;> cases d3 <;> kernel_rfl)
          case y185 => (intro hb w' hw'; obtain ⟨c1, c2, c3, c4, c5, c6, c7, c8, c9, c10, c11, c12⟩ := hE.out w' hw'; go_simp; (try with_reducible rfl))
          (try simp only [Act.put, List.setIfInBounds_toArray, List.set_cons_zero, List.set_cons_succ])
          refine De.Det.guard (o := ?o186) (v := ?v186) 33 g30 ?q186 (by kernel_rfl) (by kernel_rfl) ?w186 ?y186 ?h186
          case q186 => (simp only [List.getElem?_toArray, List.getElem?_cons_succ, List.getElem?_cons_zero]; rfl)
          case w186 => (rw [← hg30.out]; cases m22 <;> cases d3 <;> kernel_rfl)
          case y186 => (intro hb w' hw'; obtain ⟨c1, c2, c3, c4, c5, c6, c7, c8, c9, c10, c11, c12⟩ := hE.out w' hw'; go_simp; (try with_reducible rfl))
          (try simp only [Act.put, List.setIfInBounds_toArray, List.set_cons_zero, List.set_cons_succ])
          refine De.Det.guard (o := ?o187) (v := ?v187) 34 g30 ?q187 (by kernel_rfl) (by kernel_rfl) ?w187 ?y187 ?h187
          case q187 => (simp only [List.getElem?_toArray, List.getElem?_cons_succ, List.getElem?_cons_zero]; rfl)
          case w187 => (rw [← hg30.out]; cases m22 <;> cases d3 <;> kernel_rfl)
          case y187 => (intro hb w' hw'; obtain ⟨c1, c2, c3, c4, c5, c6, c7, c8, c9, c10, c11, c12⟩ := hE.out w' hw'; go_simp; (try with_reducible rfl))
          (try simp only [Act.put, List.setIfInBounds_toArray, List.set_cons_zero, List.set_cons_succ])
          refine De.Det.guard (o := ?o188) (v := ?v188) 35 g30 ?q188 (by kernel_rfl) (by kernel_rfl) ?w188 ?y188 ?h188
          case q188 => (simp only [List.getElem?_toArray, List.getElem?_cons_succ, List.getElem?_cons_zero]; rfl)
          case w188 => (rw [← hg30.out]; cases m22 <;> cases d3 <;> kernel_rfl)
          case y188 => (intro hb w' hw'; obtain ⟨c1, c2, c3, c4, c5, c6, c7, c8, c9, c10, c11, c12⟩ := hE.out w' hw'; go_simp; (try with_reducible rfl))
          (try simp only [Act.put, List.setIfInBounds_toArray, List.set_cons_zero, List.set_cons_succ])
          refine De.Det.guard (o := ?o189) (v := ?v189) 36 g30 ?q189 (by kernel_rfl) (by kernel_rfl) ?w189 ?y189 ?h189
          case q189 => (simp only [List.getElem?_toArray, List.getElem?_cons_succ, List.getElem?_cons_zero]; rfl)
          case w189 => (rw [← hg30.out]; cases m22 <;> cases d3 <;> kernel_rfl)
          case y189 => (intro hb w' hw'; obtain ⟨c1, c2, c3, c4, c5, c6, c7, c8, c9, c10, c11, c12⟩ := hE.out w' hw'; go_simp; (try with_reducible rfl))
          (try simp only [Act.put, List.setIfInBounds_toArray, List.set_cons_zero, List.set_cons_succ])
          refine De.Det.guard (o := ?o190) (v := ?v190) 37 g30 ?q190 (by kernel_rfl) (by kernel_rfl) ?w190 ?y190 ?h190
          case q190 => (simp only [List.getElem?_toArray, List.getElem?_cons_succ, List.getElem?_cons_zero]; rfl)
          case w190 => (rw [← hg30.out]; cases m22 <;> cases d3 <;> kernel_rfl)
          case y190 => (intro hb w' hw'; obtain ⟨c1, c2, c3, c4, c5, c6, c7, c8, c9, c10, c11, c12⟩ := hE.out w' hw'; go_simp; (try with_reducible rfl))
          (try simp only [Act.put, List.setIfInBounds_toArray, List.set_cons_zero, List.set_cons_succ])
          refine De.Det.guard (o := ?o191) (v := .bool q38) 38 m22 ?q191 (by kernel_rfl) (by kernel_rfl) ?w191 ?y191 ?h191
          case q191 => (simp only [List.getElem?_toArray, List.getElem?_cons_succ, List.getElem?_cons_zero]; rfl)
          case w191 => (cases m22 <;> kernel_rfl)
          case y191 => (intro hb w' hw'; subst hb; have h30 := hg30.out; rw [← hq38.out]; simp only [Bool.true_and] at h30; subst h30; cases d3 <;> go_simp)
          (try simp only [Act.put, List.setIfInBounds_toArray, List.set_cons_zero, List.set_cons_succ])
          refine De.Det.guard (o := ?o192) (v := .bool q38) 39 m22 ?q192 (by kernel_rfl) (by kernel_rfl) ?w192 ?y192 ?h192
          case q192 => (simp only [List.getElem?_toArray, List.getElem?_cons_succ, List.getElem?_cons_zero]; rfl)
          case w192 => (cases m22 <;> kernel_rfl)
          case y192 => (intro hb w' hw'; subst hb; go_simp)
          (try simp only [Act.put, List.setIfInBounds_toArray, List.set_cons_zero, List.set_cons_succ])
          refine De.Det.guard (o := ?o193) (v := ?v193) 40 g39 ?q193 (by kernel_rfl) (by kernel_rfl) ?w193 ?y193 ?h193
          case q193 => (simp only [List.getElem?_toArray, List.getElem?_cons_succ, List.getElem?_cons_zero]; rfl)
          case w193 => (rw [← hg39.out]; cases m22 <;> cases q38 <;> kernel_rfl)
          case y193 => (intro hb w' hw'; obtain ⟨c1, c2, c3, c4, c5, c6, c7, c8, c9, c10, c11, c12⟩ := hE.out w' hw'; go_simp; (try with_reducible rfl))
          (try simp only [Act.put, List.setIfInBounds_toArray, List.set_cons_zero, List.set_cons_succ])
          refine De.Det.guard (o := ?o194) (v := ?v194) 41 g39 ?q194 (by kernel_rfl) (by kernel_rfl) ?w194 ?y194 ?h194
          case q194 => (simp only [List.getElem?_toArray, List.getElem?_cons_succ, List.getElem?_cons_zero]; rfl)
          case w194 => (rw [← hg39.out]; cases m22 <;> cases q38 <;> kernel_rfl)
          case y194 => (intro hb w' hw'; obtain ⟨c1, c2, c3, c4, c5, c6, c7, c8, c9, c10, c11, c12⟩ := hE.out w' hw'; go_simp; (try with_reducible rfl))
          (try simp only [Act.put, List.setIfInBounds_toArray, List.set_cons_zero, List.set_cons_succ])
          refine De.Det.guard (o := ?o195) (v := ?v195) 42 g39 ?q195 (by kernel_rfl) (by kernel_rfl) ?w195 ?y195 ?h195
          case q195 => (simp only [List.getElem?_toArray, List.getElem?_cons_succ, List.getElem?_cons_zero]; rfl)
          case w195 => (rw [← hg39.out]; cases m22 <;> cases q38 <;> kernel_rfl)
          case y195 => (intro hb w' hw'; obtain ⟨c1, c2, c3, c4, c5, c6, c7, c8, c9, c10, c11, c12⟩ := hE.out w' hw'; go_simp; (try with_reducible rfl))
          (try simp only [Act.put, List.setIfInBounds_toArray, List.set_cons_zero, List.set_cons_succ])
          refine De.Det.gcall (o := ?o196) (v := ?v196) (f := ?f196) (args := ?g196) 43 g39 ?q196 (by kernel_rfl) (by kernel_rfl) ?w196 ?e196 ?c196 ?h196
          case q196 => (simp only [List.getElem?_toArray, List.getElem?_cons_succ, List.getElem?_cons_zero]; rfl)
          case w196 => (rw [← hg39.out]; cases m22 <;> cases q38 <;> kernel_rfl)
          case e196 => (intro hb w'; go_simp; refine ⟨?_, ?_⟩ <;> with_reducible rfl)
          case c196 => (intro hb w' hw'; subst hb; exact hs1.out w')
          (try simp only [Act.put, List.setIfInBounds_toArray, List.set_cons_zero, List.set_cons_succ])
          refine De.Det.guard (o := ?o197) (v := .bool q44) 44 m22 ?q197 (by kernel_rfl) (by kernel_rfl) ?w197 ?y197 ?h197
          case q197 => (simp only [List.getElem?_toArray, List.getElem?_cons_succ, List.getElem?_cons_zero]; rfl)
          case w197 => (cases m22 <;> kernel_rfl)
          case y197 => (intro hb w' hw'; subst hb; have h39 := hg39.out; rw [← hq44.out]; simp only [Bool.true_and] at h39; subst h39; cases q38 <;> go_simp)
          (try simp only [Act.put, List.setIfInBounds_toArray, List.set_cons_zero, List.set_cons_succ])
          refine De.Det.read (o := ?o198) (v := .bool R) 45 ?q198 (by kernel_rfl) (by kernel_rfl) ?w198 ?y198 ?h198
          case q198 => (simp only [List.getElem?_toArray, List.getElem?_cons_succ, List.getElem?_cons_zero]; rfl)
          case w198 => kernel_rfl
          case y198 => (intro w' hw'; rw [← hR.out]; cases m22 <;> go_simp)
          (try simp only [Act.put, List.setIfInBounds_toArray, List.set_cons_zero, List.set_cons_succ])
          refine De.Det.base ?_
          refine De.Det2.done (by kernel_rfl) ?_
          rintro wo ⟨hb_wo, hO_wo⟩
          clear hO_wo
          refine hK' _ _ (hJ' _ _ ?_)
          (repeat apply Exists.intro)
          exact ⟨⟨rfl, drew_up hb_wo⟩, rfl⟩
        case rest =>
        obtain ⟨rfl, hbo0⟩ := hcut
        have hbo := hbn.trans (hbo0.mono hbn.size)
        have hbro := hbrn.trans (hbo0.mono hbrn.size)
        clear G1 G2 G3 G4 hg16 hm22 hg30 hq38 hg39 hq44 hR
        cases R with
        | true =>
          go_wp2_with (fail)
          go_ret
          exact ⟨ret_bool (hbad.out (by (rw [← hLR.out]) <;> simp)).symm, hbo⟩
        | false =>
          go_wp2_with (fail)
          go_roundw
          case rel => exact ⟨i + 1, by omega, by go_num, hgo2.out (by (rw [← hLR.out]) <;> simp), hbro⟩
          case measure => simp [intOf]; omega
    · obtain rfl : n = i := by omega
      go_wp2_with (fail)
      go_ret
      exact ⟨ret_bool (by rw [HCUT.out, all_good (f := fun i => lineOk (a1, a2) (b1, b2) (at' o i) (at' o (i + 1))) hal.out]; rfl), hbw⟩
end Du
end Go.Proofs.YtkbfmogjhjdjmaaDoor

