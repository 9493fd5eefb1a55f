/- The texts DuE to DuH, joined by joinlist.py: their statements say what each proves. -/
import Derived.Test.YtkbfmogjhjdjmaaDoorDuD
-- the text DuE
namespace Go.Proofs.YtkbfmogjhjdjmaaDoor
open Go.RowKit
namespace Du
set_option linter.unusedSimpArgs false
def areaT (o : List Pt) (j : Nat) : Int := times (less (at' o (j + 1)) (at' o 0)) (less (at' o (j + 2)) (at' o 0))
def areaK (o : List Pt) (m : Nat) : Int := ((List.range m).map (areaT o)).foldl (· + ·) 0
theorem areaK_succ (o : List Pt) (m : Nat) : areaK o (m + 1) = areaK o m + areaT o m := by
  unfold areaK
  rw [List.range_succ, List.map_append, List.foldl_append]
  rfl
theorem areaK_all (o : List Pt) : areaK o (o.length - 2) = areaF o := rfl
def SmL (B : Int) (o : List Pt) : Prop := ∀ p ∈ o, Sm B p
theorem SmL.at_ {B : Int} {o : List Pt} (h : SmL B o) {i : Nat} {p : Pt} (hi : o[i]? = some p) : Sm B p := h p (List.mem_of_getElem? hi)
theorem at_eq {o : List Pt} {i : Nat} {p : Pt} (h : o[i]? = some p) : at' o i = p := by
  have hl := (List.getElem?_eq_some_iff.1 h).1
  unfold at'
  rw [Nat.mod_eq_of_lt hl, List.getD_eq_getElem?_getD, h]
  rfl
theorem get_at {o : List Pt} {i : Nat} (h : i < o.length) : o[i]? = some (at' o i) := by
  have hh := List.getElem?_eq_getElem h
  rw [at_eq hh]
  exact hh
theorem times_sm {p q : Pt} (hp : Sm 24 p) (hq : Sm 24 q) : -1152 ≤ times p q ∧ times p q ≤ 1152 := by
  obtain ⟨h1, h2, h3, h4⟩ := hp
  obtain ⟨k1, k2, k3, k4⟩ := hq
  have a := mul_sm (B := 24) (by decide) h1 h2 k3 k4
  have b := mul_sm (B := 24) (by decide) h3 h4 k1 k2
  unfold times
  omega
theorem areaT_sm {o : List Pt} (h : SmL 12 o) {j : Nat} (hj : j + 2 < o.length) : -1152 ≤ areaT o j ∧ areaT o j ≤ 1152 :=
  times_sm (sm_less (h.at_ (get_at (by omega))) (h.at_ (get_at (by omega)))) (sm_less (h.at_ (get_at (by omega))) (h.at_ (get_at (by omega))))
theorem areaK_sm {o : List Pt} (h : SmL 12 o) : ∀ m, m + 2 ≤ o.length → -(1152 * m) ≤ areaK o m ∧ areaK o m ≤ 1152 * m
  | 0, _ => by simp [areaK]
  | m + 1, hm => by
    have a := areaK_sm h m (by omega)
    have b := areaT_sm h (j := m) (by omega)
    rw [areaK_succ]
    omega
theorem PtS.cells {w : World} {A : Option Addr} {o : List Pt} (h : PtS w A o) (h0 : 0 < o.length) : ∃ g, A = some ⟨g, 0, none⟩ ∧ g < w.heap.size ∧ ∀ w', Below w.heap.size w w' → ∀ (i : Nat) (p : Pt), o[i]? = some p → w'.cell? ⟨g, i * 2, none⟩ = some (.int .i64 p.1) ∧ w'.cell? ⟨g, i * 2 + 1, none⟩ = some (.int .i64 p.2) := by
  rcases h with h | ⟨g, cs, e, hB, hc⟩
  · rw [h] at h0; cases h0
  · exact ⟨g, e, hB.lt, fun w' hb i p hi => by
      have hB' := hB.callee hb
      rw [hB'.cell, hB'.cell]
      exact hc i p hi⟩
set_option maxRecDepth 100000 in
set_option maxHeartbeats 1000000 in
theorem area_ok (A : Option Addr) (n c : Nat) (o : List Pt) (hn : o.length = n) (h3 : 3 ≤ n) (h8 : n ≤ 8) (hs : SmL 12 o) (w : World) (hP : PtS w A o) :
    Calls Tryd.prog 31 #[.slice A n c] w fun e w' => e = .returned (.int .i64 (areaF o)) ∧ Below w.heap.size w w' := by
  have hall := Lib.hid (areaK_all o)
  rw [hn] at hall
  have hB := Lib.hid (fun m hm => areaK_sm hs m (hn ▸ hm))
  have hT := Lib.hid (fun j hj => areaT_sm hs (j := j) (hn ▸ hj))
  have hsuc := Lib.hid (areaK_succ o)
  have hget := Lib.hid (fun i (hi : i < n) => get_at (o := o) (i := i) (hn ▸ hi))
  have hsm := Lib.hid (fun i p (hi : o[i]? = some p) => hs.at_ hi)
  obtain ⟨g, rfl, hgl, hcell⟩ := hP.cells (by omega)
  replace hcell := Lib.hid hcell
  have h0 : 0 < n := by omega
  have h2i : (2 : Int) ≤ n := by omega
  clear hP hs hn
  go_enter Tryd.func31, Tryd.ntmps31
  go_wp2_with (fail)
  go_loopw [3, 4] (fun u v wr => ∃ k : Nat, 2 ≤ k ∧ k ≤ n ∧ v = .int .i64 k ∧ u = .int .i64 (areaK o (k - 2)) ∧ Below w.heap.size w wr) (fun _ v _ => n - (intOf v).toNat)
  case atStart => exact ⟨2, by omega, by omega, rfl, rfl, Below.refl _ _⟩
  case round =>
    obtain ⟨k, hk2, hk, rfl, rfl, hb⟩ := hrel
    obtain ⟨wa, rfl⟩ : ∃ x, x = wr := ⟨wr, rfl⟩
    by_cases hlt : k < n
    · obtain ⟨j, rfl⟩ : ∃ j, k = j + 2 := ⟨k - 2, by omega⟩
      have t1 := Lib.hid (hsuc.out j)
      have b1 := hB.out j (by omega)
      have b2 := hT.out j (by omega)
      rw [show j + 2 - 2 = j by omega]
      have e1 := hget.out (j + 1) (by omega)
      have e2 := hget.out (j + 2) hlt
      have e0 := hget.out 0 h0
      have q1 := Lib.hid (hsm.out _ _ e1)
      have q2 := Lib.hid (hsm.out _ _ e2)
      have q0 := Lib.hid (hsm.out _ _ e0)
      obtain ⟨T, hT'⟩ : ∃ T, areaT o j = T := ⟨_, rfl⟩
      rw [hT'] at b2 t1
      unfold areaT at hT'
      have cc := Lib.hid (fun w' hb' => And.intro (hcell.out w' hb' _ _ e0) (And.intro (hcell.out w' hb' _ _ e1) (hcell.out w' hb' _ _ e2)))
      clear e0 e1 e2
      obtain ⟨p0, hp0⟩ : ∃ p, at' o 0 = p := ⟨_, rfl⟩
      obtain ⟨p1, hp1⟩ : ∃ p, at' o (j + 1) = p := ⟨_, rfl⟩
      obtain ⟨p2, hp2⟩ : ∃ p, at' o (j + 2) = p := ⟨_, rfl⟩
      rw [hp0] at q0 cc hT'
      rw [hp1] at q1 cc hT'
      rw [hp2] at q2 cc hT'
      clear hp0 hp1 hp2
      have l1 := Lib.hid (fun w' => less_ok p1 p0 (q1.out.up (by decide)) (q0.out.up (by decide)) w')
      have l2 := Lib.hid (fun w' => less_ok p2 p0 (q2.out.up (by decide)) (q0.out.up (by decide)) w')
      have l3 := Lib.hid (fun w' => times_ok (less p1 p0) (less p2 p0) ((sm_less q1.out q0.out).up (by decide)) ((sm_less q2.out q0.out).up (by decide)) w')
      rw [hT'] at l3
      clear hT' q0 q1 q2
      obtain ⟨u1, hu1⟩ : ∃ u, less p1 p0 = u := ⟨_, rfl⟩
      obtain ⟨u2, hu2⟩ : ∃ u, less p2 p0 = u := ⟨_, rfl⟩
      rw [hu1] at l1 l3
      rw [hu2] at l2 l3
      clear hu1 hu2
      obtain ⟨a, b⟩ := p0
      obtain ⟨c, d⟩ := p1
      obtain ⟨x, y⟩ := p2
      obtain ⟨S, hS⟩ : ∃ S, areaK o j = S := ⟨_, rfl⟩
      rw [hS] at t1 b1 ⊢
      clear hS
      obtain ⟨b11, b12⟩ := b1
      obtain ⟨b21, b22⟩ := b2
      obtain ⟨k, hk'⟩ : ∃ k, k = j + 2 := ⟨_, rfl⟩
      obtain ⟨i, hi'⟩ : ∃ i, i = j + 1 := ⟨_, rfl⟩
      have hC : Hid (∀ w', Below wa.drew.heap.size wa.drew w' → w'.cell? ⟨g, 0, none⟩ = some (.int .i64 a) ∧ w'.cell? ⟨g, 1, none⟩ = some (.int .i64 b) ∧ w'.cell? ⟨g, i * 2, none⟩ = some (.int .i64 c) ∧ w'.cell? ⟨g, i * 2 + 1, none⟩ = some (.int .i64 d) ∧ w'.cell? ⟨g, k * 2, none⟩ = some (.int .i64 x) ∧ w'.cell? ⟨g, k * 2 + 1, none⟩ = some (.int .i64 y)) := fun w' hw => by
        have := cc.out w' (hb.trans (Below.mono (w := wa) (w' := w') ⟨hw.os, hw.tape, hw.output, hw.size, hw.block⟩ hb.size))
        rw [hi', hk']
        exact ⟨this.1.1, this.1.2, this.2.1.1, this.2.1.2, this.2.2.1, this.2.2.2⟩
      rw [← hk']
      have hki : (k : Int) - 1 = i := by omega
      have hK := Lib.hid hk'
      have hlti : (k : Int) < n := by omega
      have hi0 : (0 : Int) ≤ i := by omega
      have hin : (i : Int) < n := by omega
      have hk0 : (0 : Int) ≤ k := by omega
      have hsum : -8000 ≤ S + T ∧ S + T ≤ 100000 := by omega
      obtain ⟨hsum1, hsum2⟩ := hsum
      have hw2 : IntKind.i64.wrap (S + T) = S + T := IntWalk.i64_in _ (by omega)
      have hw1 : IntKind.i64.wrap ((k : Int) - 1) = i := by rw [hki]; exact IntWalk.i64_in _ (by omega)
      replace hw2 := Lib.hid hw2
      replace hw1 := Lib.hid hw1
      clear hk' hi' hki
      go_wp2_with (fail)
      replace hw1 := hw1.out
      replace hw2 := hw2.out
      refine De.region_det (by kernel_rfl) (by kernel_rfl) ?_
      refine De.Det.read (o := ?o1) (v := ?v1) 0 ?q1 (by kernel_rfl) (by kernel_rfl) ?w1 ?y1 ?h1
      case q1 => (simp only [List.getElem?_toArray, List.getElem?_cons_succ, List.getElem?_cons_zero]; rfl)
      case w1 => kernel_rfl
      case y1 => (intro w' hw'; obtain ⟨c1, c2, c3, c4, c5, c6⟩ := hC.out w' hw'; go_simp; (try with_reducible rfl))
      (try simp only [Act.put, List.setIfInBounds_toArray, List.set_cons_zero, List.set_cons_succ])
      refine De.Det.read (o := ?o2) (v := ?v2) 1 ?q2 (by kernel_rfl) (by kernel_rfl) ?w2 ?y2 ?h2
      case q2 => (simp only [List.getElem?_toArray, List.getElem?_cons_succ, List.getElem?_cons_zero]; rfl)
      case w2 => kernel_rfl
      case y2 => (intro w' hw'; obtain ⟨c1, c2, c3, c4, c5, c6⟩ := hC.out w' hw'; go_simp; (try with_reducible rfl))
      (try simp only [Act.put, List.setIfInBounds_toArray, List.set_cons_zero, List.set_cons_succ])
      refine De.Det.read (o := ?o3) (v := ?v3) 2 ?q3 (by kernel_rfl) (by kernel_rfl) ?w3 ?y3 ?h3
      case q3 => (simp only [List.getElem?_toArray, List.getElem?_cons_succ, List.getElem?_cons_zero]; rfl)
      case w3 => kernel_rfl
      case y3 => (intro w' hw'; obtain ⟨c1, c2, c3, c4, c5, c6⟩ := hC.out w' hw'; go_simp; (try with_reducible rfl))
      (try simp only [Act.put, List.setIfInBounds_toArray, List.set_cons_zero, List.set_cons_succ])
      refine De.Det.read (o := ?o4) (v := ?v4) 3 ?q4 (by kernel_rfl) (by kernel_rfl) ?w4 ?y4 ?h4
      case q4 => (simp only [List.getElem?_toArray, List.getElem?_cons_succ, List.getElem?_cons_zero]; rfl)
      case w4 => kernel_rfl
      case y4 => (intro w' hw'; obtain ⟨c1, c2, c3, c4, c5, c6⟩ := hC.out w' hw'; go_simp; (try with_reducible rfl))
      (try simp only [Act.put, List.setIfInBounds_toArray, List.set_cons_zero, List.set_cons_succ])
      refine De.Det.read (o := ?o5) (v := ?v5) 4 ?q5 (by kernel_rfl) (by kernel_rfl) ?w5 ?y5 ?h5
      case q5 => (simp only [List.getElem?_toArray, List.getElem?_cons_succ, List.getElem?_cons_zero]; rfl)
      case w5 => kernel_rfl
      case y5 => (intro w' hw'; obtain ⟨c1, c2, c3, c4, c5, c6⟩ := hC.out w' hw'; go_simp; (try with_reducible rfl))
      (try simp only [Act.put, List.setIfInBounds_toArray, List.set_cons_zero, List.set_cons_succ])
      refine De.Det.read (o := ?o6) (v := ?v6) 5 ?q6 (by kernel_rfl) (by kernel_rfl) ?w6 ?y6 ?h6
      case q6 => (simp only [List.getElem?_toArray, List.getElem?_cons_succ, List.getElem?_cons_zero]; rfl)
      case w6 => kernel_rfl
      case y6 => (intro w' hw'; obtain ⟨c1, c2, c3, c4, c5, c6⟩ := hC.out w' hw'; go_simp; (try with_reducible rfl))
      (try simp only [Act.put, List.setIfInBounds_toArray, List.set_cons_zero, List.set_cons_succ])
      refine De.Det.read (o := ?o7) (v := ?v7) 6 ?q7 (by kernel_rfl) (by kernel_rfl) ?w7 ?y7 ?h7
      case q7 => (simp only [List.getElem?_toArray, List.getElem?_cons_succ, List.getElem?_cons_zero]; rfl)
      case w7 => kernel_rfl
      case y7 => (intro w' hw'; obtain ⟨c1, c2, c3, c4, c5, c6⟩ := hC.out w' hw'; go_simp; (try with_reducible rfl))
      (try simp only [Act.put, List.setIfInBounds_toArray, List.set_cons_zero, List.set_cons_succ])
      refine De.Det.read (o := ?o8) (v := ?v8) 7 ?q8 (by kernel_rfl) (by kernel_rfl) ?w8 ?y8 ?h8
      case q8 => (simp only [List.getElem?_toArray, List.getElem?_cons_succ, List.getElem?_cons_zero]; rfl)
      case w8 => kernel_rfl
      case y8 => (intro w' hw'; obtain ⟨c1, c2, c3, c4, c5, c6⟩ := hC.out w' hw'; go_simp; (try with_reducible rfl))
      (try simp only [Act.put, List.setIfInBounds_toArray, List.set_cons_zero, List.set_cons_succ])
      refine De.Det.read (o := ?o9) (v := ?v9) 8 ?q9 (by kernel_rfl) (by kernel_rfl) ?w9 ?y9 ?h9
      case q9 => (simp only [List.getElem?_toArray, List.getElem?_cons_succ, List.getElem?_cons_zero]; rfl)
      case w9 => kernel_rfl
      case y9 => (intro w' hw'; obtain ⟨c1, c2, c3, c4, c5, c6⟩ := hC.out w' hw'; go_simp; (try with_reducible rfl))
      (try simp only [Act.put, List.setIfInBounds_toArray, List.set_cons_zero, List.set_cons_succ])
      refine De.Det.call (o := ?o10) (v := ?v10) (f := ?f10) (args := ?g10) 9 ?q10 (by kernel_rfl) (by kernel_rfl) ?w10 ?e10 ?c10 ?h10
      case q10 => (simp only [List.getElem?_toArray, List.getElem?_cons_succ, List.getElem?_cons_zero]; rfl)
      case w10 => kernel_rfl
      case e10 => (intro w'; go_simp; refine ⟨?_, ?_⟩ <;> with_reducible rfl)
      case c10 => (intro w' hw'; exact (l1.out w'))
      (try simp only [Act.put, List.setIfInBounds_toArray, List.set_cons_zero, List.set_cons_succ])
      refine De.Det.read (o := ?o11) (v := ?v11) 10 ?q11 (by kernel_rfl) (by kernel_rfl) ?w11 ?y11 ?h11
      case q11 => (simp only [List.getElem?_toArray, List.getElem?_cons_succ, List.getElem?_cons_zero]; rfl)
      case w11 => kernel_rfl
      case y11 => (intro w' hw'; obtain ⟨c1, c2, c3, c4, c5, c6⟩ := hC.out w' hw'; go_simp; (try with_reducible rfl))
      (try simp only [Act.put, List.setIfInBounds_toArray, List.set_cons_zero, List.set_cons_succ])
      refine De.Det.read (o := ?o12) (v := ?v12) 11 ?q12 (by kernel_rfl) (by kernel_rfl) ?w12 ?y12 ?h12
      case q12 => (simp only [List.getElem?_toArray, List.getElem?_cons_succ, List.getElem?_cons_zero]; rfl)
      case w12 => kernel_rfl
      case y12 => (intro w' hw'; obtain ⟨c1, c2, c3, c4, c5, c6⟩ := hC.out w' hw'; go_simp; (try with_reducible rfl))
      (try simp only [Act.put, List.setIfInBounds_toArray, List.set_cons_zero, List.set_cons_succ])
      refine De.Det.read (o := ?o13) (v := ?v13) 12 ?q13 (by kernel_rfl) (by kernel_rfl) ?w13 ?y13 ?h13
      case q13 => (simp only [List.getElem?_toArray, List.getElem?_cons_succ, List.getElem?_cons_zero]; rfl)
      case w13 => kernel_rfl
      case y13 => (intro w' hw'; obtain ⟨c1, c2, c3, c4, c5, c6⟩ := hC.out w' hw'; go_simp; (try with_reducible rfl))
      (try simp only [Act.put, List.setIfInBounds_toArray, List.set_cons_zero, List.set_cons_succ])
      refine De.Det.read (o := ?o14) (v := ?v14) 13 ?q14 (by kernel_rfl) (by kernel_rfl) ?w14 ?y14 ?h14
      case q14 => (simp only [List.getElem?_toArray, List.getElem?_cons_succ, List.getElem?_cons_zero]; rfl)
      case w14 => kernel_rfl
      case y14 => (intro w' hw'; obtain ⟨c1, c2, c3, c4, c5, c6⟩ := hC.out w' hw'; go_simp; (try with_reducible rfl))
      (try simp only [Act.put, List.setIfInBounds_toArray, List.set_cons_zero, List.set_cons_succ])
      refine De.Det.read (o := ?o15) (v := ?v15) 14 ?q15 (by kernel_rfl) (by kernel_rfl) ?w15 ?y15 ?h15
      case q15 => (simp only [List.getElem?_toArray, List.getElem?_cons_succ, List.getElem?_cons_zero]; rfl)
      case w15 => kernel_rfl
      case y15 => (intro w' hw'; obtain ⟨c1, c2, c3, c4, c5, c6⟩ := hC.out w' hw'; go_simp; (try with_reducible rfl))
      (try simp only [Act.put, List.setIfInBounds_toArray, List.set_cons_zero, List.set_cons_succ])
      refine De.Det.read (o := ?o16) (v := ?v16) 15 ?q16 (by kernel_rfl) (by kernel_rfl) ?w16 ?y16 ?h16
      case q16 => (simp only [List.getElem?_toArray, List.getElem?_cons_succ, List.getElem?_cons_zero]; rfl)
      case w16 => kernel_rfl
      case y16 => (intro w' hw'; obtain ⟨c1, c2, c3, c4, c5, c6⟩ := hC.out w' hw'; go_simp; (try with_reducible rfl))
      (try simp only [Act.put, List.setIfInBounds_toArray, List.set_cons_zero, List.set_cons_succ])
      refine De.Det.read (o := ?o17) (v := ?v17) 16 ?q17 (by kernel_rfl) (by kernel_rfl) ?w17 ?y17 ?h17
      case q17 => (simp only [List.getElem?_toArray, List.getElem?_cons_succ, List.getElem?_cons_zero]; rfl)
      case w17 => kernel_rfl
      case y17 => (intro w' hw'; obtain ⟨c1, c2, c3, c4, c5, c6⟩ := hC.out w' hw'; go_simp; (try with_reducible rfl))
      (try simp only [Act.put, List.setIfInBounds_toArray, List.set_cons_zero, List.set_cons_succ])
      refine De.Det.call (o := ?o18) (v := ?v18) (f := ?f18) (args := ?g18) 17 ?q18 (by kernel_rfl) (by kernel_rfl) ?w18 ?e18 ?c18 ?h18
      case q18 => (simp only [List.getElem?_toArray, List.getElem?_cons_succ, List.getElem?_cons_zero]; rfl)
      case w18 => kernel_rfl
      case e18 => (intro w'; go_simp; refine ⟨?_, ?_⟩ <;> with_reducible rfl)
      case c18 => (intro w' hw'; exact (l2.out w'))
      (try simp only [Act.put, List.setIfInBounds_toArray, List.set_cons_zero, List.set_cons_succ])
      refine De.Det.call (o := ?o19) (v := ?v19) (f := ?f19) (args := ?g19) 18 ?q19 (by kernel_rfl) (by kernel_rfl) ?w19 ?e19 ?c19 ?h19
      case q19 => (simp only [List.getElem?_toArray, List.getElem?_cons_succ, List.getElem?_cons_zero]; rfl)
      case w19 => kernel_rfl
      case e19 => (intro w'; go_simp; refine ⟨?_, ?_⟩ <;> with_reducible rfl)
      case c19 => (intro w' hw'; exact (l3.out w'))
      (try simp only [Act.put, List.setIfInBounds_toArray, List.set_cons_zero, List.set_cons_succ])
      refine De.Det.read (o := ?o20) (v := ?v20) 19 ?q20 (by kernel_rfl) (by kernel_rfl) ?w20 ?y20 ?h20
      case q20 => (simp only [List.getElem?_toArray, List.getElem?_cons_succ, List.getElem?_cons_zero]; rfl)
      case w20 => kernel_rfl
      case y20 => (intro w' hw'; obtain ⟨c1, c2, c3, c4, c5, c6⟩ := hC.out w' hw'; go_simp; (try with_reducible rfl))
      (try simp only [Act.put, List.setIfInBounds_toArray, List.set_cons_zero, List.set_cons_succ])
      refine De.Det.read (o := ?o21) (v := ?v21) 20 ?q21 (by kernel_rfl) (by kernel_rfl) ?w21 ?y21 ?h21
      case q21 => (simp only [List.getElem?_toArray, List.getElem?_cons_succ, List.getElem?_cons_zero]; rfl)
      case w21 => kernel_rfl
      case y21 => (intro w' hw'; obtain ⟨c1, c2, c3, c4, c5, c6⟩ := hC.out w' hw'; go_simp; (try with_reducible rfl))
      (try simp only [Act.put, List.setIfInBounds_toArray, List.set_cons_zero, List.set_cons_succ])
      refine De.Det.base ?_
      refine De.Det2.done (by kernel_rfl) ?_
      rintro w3 ⟨hb_w3, hO_w3⟩
      clear hO_w3
      replace hw1 := Lib.hid hw1
      replace hw2 := Lib.hid hw2
      go_wp2_with (fail)
      go_roundw
      case rel =>
        have hK' := hK.out
        exact ⟨k + 1, by omega, by omega, by go_num, by rw [← t1.out, show k + 1 - 2 = j + 1 by omega], hb.trans (Below.mono (w := wa) (w' := w3) ⟨hb_w3.os, hb_w3.tape, hb_w3.output, hb_w3.size, hb_w3.block⟩ hb.size)⟩
      case measure => simp [intOf]; omega
    · obtain rfl : n = k := by omega
      go_wp2_with (fail)
      go_ret
      exact ⟨ret_int hall.out, hb⟩
end Du
end Go.Proofs.YtkbfmogjhjdjmaaDoor
-- the text DuF
namespace Go.Proofs.YtkbfmogjhjdjmaaDoor
open Go.RowKit
namespace Du
set_option linter.unusedSimpArgs false
set_option maxRecDepth 100000 in
set_option maxHeartbeats 1000000 in
theorem index_ok (A : Option Addr) (n c : Nat) (o : List Pt) (p : Pt) (hn : o.length = n) (h8 : n ≤ 100) (w : World) (hP : PtS w A o) :
    Calls Tryd.prog 26 #[.slice A n c, ptV p] w fun e w' => (∃ i : Int, e = .returned (.int .i64 i) ∧ decide (0 ≤ i) = decide (p ∈ o)) ∧ Below w.heap.size w w' := by
  obtain ⟨a, b⟩ := p
  have hget := Lib.hid (fun i (hi : i < n) => get_at (o := o) (i := i) (hn ▸ hi))
  have hcell : Hid (∀ w', Below w.heap.size w w' → ∀ i, i < n → ∃ g x y, A = some ⟨g, 0, none⟩ ∧ o[i]? = some (x, y) ∧ w'.cell? ⟨g, i * 2, none⟩ = some (.int .i64 x) ∧ w'.cell? ⟨g, i * 2 + 1, none⟩ = some (.int .i64 y)) := fun w' hb i hi => by
    obtain ⟨g, e, h1, h2⟩ := (hP.below hb).at_ (hget.out i hi)
    exact ⟨g, _, _, e, hget.out i hi, h1, h2⟩
  have hN := Lib.hid hn
  clear hP hget hn
  unfold ptV
  go_enter Tryd.func26, Tryd.ntmps26
  go_wp2_with (first
    | (with_reducible show wpList _ _ _ (⟨some 3, .box 35 _, _, _, _, _⟩ :: _) _ _
       refine wpList_box_blk rfl 35 _ rfl #[.int .i64 a, .int .i64 b] rfl ?_
       intro w2 g2 hG2 hgr2 hge2
       have hb2 := below_none (Below.refl w.heap.size w) hgr2 (Nat.le_refl _)
       clear hgr2))
  go_loopw [8] (fun v wr => ∃ k : Nat, k ≤ n ∧ v = .int .i64 k ∧ (∀ i, i < k → o[i]? ≠ some (a, b)) ∧ Below w2.heap.size w2 wr) (fun v _ => n - (intOf v).toNat)
  case atStart => exact ⟨0, by omega, rfl, fun i hi => absurd hi (by omega), Below.refl _ _⟩
  case round =>
    obtain ⟨k, hk, rfl, hno, hb⟩ := hrel
    obtain ⟨wa, rfl⟩ : ∃ x, x = wr := ⟨wr, rfl⟩
    have hbw := hb2.trans (hb.mono hb2.size)
    by_cases hlt : k < n
    · have hlti : (k : Int) < n := by omega
      obtain ⟨g, x, y, rfl, hx, _, _⟩ := hcell.out wa hbw k hlt
      have hno' := Lib.hid hno
      have hX := Lib.hid hx
      clear hno hx
      go_wp2_with (fail)
      have hC : Hid (∀ w', Below wa.drew.heap.size wa.drew w' → w'.cell? ⟨g2, 0, none⟩ = some (.int .i64 a) ∧ w'.cell? ⟨g2, 1, none⟩ = some (.int .i64 b) ∧ w'.cell? ⟨g, k * 2, none⟩ = some (.int .i64 x) ∧ w'.cell? ⟨g, k * 2 + 1, none⟩ = some (.int .i64 y)) := fun w' hw => by
        have hw2 : Below wa.heap.size wa w' := ⟨hw.os, hw.tape, hw.output, hw.size, hw.block⟩
        have hB := (hG2.callee hb).callee hw2
        obtain ⟨g', x', y', eg, ex, h1, h2⟩ := hcell.out w' (hbw.trans (hw2.mono hbw.size)) k hlt
        obtain rfl : g = g' := by simpa using eg
        rw [hX.out] at ex
        injection ex with ex
        injection ex with e1 e2
        subst e1 e2
        exact ⟨hB.cell 0, hB.cell 1, h1, h2⟩
      have hk0 : (0 : Int) ≤ k := by omega
      by_cases hax : a = x
      · obtain rfl := hax
        by_cases hby : b = y
        · obtain rfl := hby
          refine De.region_det (by kernel_rfl) (by kernel_rfl) ?_
          refine De.Det.read (o := ?o1) (v := ?v1) 0 ?q1 (by kernel_rfl) (by kernel_rfl) ?w1 ?y1 ?h1
          case q1 => (simp only [List.getElem?_toArray, List.getElem?_cons_succ, List.getElem?_cons_zero]; rfl)
          case w1 => kernel_rfl
          case y1 => (intro w' hw'; obtain ⟨c1, c2, c3, c4⟩ := hC.out w' hw'; go_simp; (try with_reducible rfl))
          (try simp only [Act.put, List.setIfInBounds_toArray, List.set_cons_zero, List.set_cons_succ])
          refine De.Det.read (o := ?o2) (v := ?v2) 1 ?q2 (by kernel_rfl) (by kernel_rfl) ?w2 ?y2 ?h2
          case q2 => (simp only [List.getElem?_toArray, List.getElem?_cons_succ, List.getElem?_cons_zero]; rfl)
          case w2 => kernel_rfl
          case y2 => (intro w' hw'; obtain ⟨c1, c2, c3, c4⟩ := hC.out w' hw'; go_simp; (try with_reducible rfl))
          (try simp only [Act.put, List.setIfInBounds_toArray, List.set_cons_zero, List.set_cons_succ])
          refine De.Det.read (o := ?o3) (v := ?v3) 2 ?q3 (by kernel_rfl) (by kernel_rfl) ?w3 ?y3 ?h3
          case q3 => (simp only [List.getElem?_toArray, List.getElem?_cons_succ, List.getElem?_cons_zero]; rfl)
          case w3 => kernel_rfl
          case y3 => (intro w' hw'; obtain ⟨c1, c2, c3, c4⟩ := hC.out w' hw'; go_simp; (try with_reducible rfl))
          (try simp only [Act.put, List.setIfInBounds_toArray, List.set_cons_zero, List.set_cons_succ])
          refine De.Det.read (o := ?o4) (v := ?v4) 3 ?q4 (by kernel_rfl) (by kernel_rfl) ?w4 ?y4 ?h4
          case q4 => (simp only [List.getElem?_toArray, List.getElem?_cons_succ, List.getElem?_cons_zero]; rfl)
          case w4 => kernel_rfl
          case y4 => (intro w' hw'; obtain ⟨c1, c2, c3, c4⟩ := hC.out w' hw'; go_simp; (try with_reducible rfl))
          (try simp only [Act.put, List.setIfInBounds_toArray, List.set_cons_zero, List.set_cons_succ])
          refine De.Det.read (o := ?o5) (v := ?v5) 4 ?q5 (by kernel_rfl) (by kernel_rfl) ?w5 ?y5 ?h5
          case q5 => (simp only [List.getElem?_toArray, List.getElem?_cons_succ, List.getElem?_cons_zero]; rfl)
          case w5 => kernel_rfl
          case y5 => (intro w' hw'; obtain ⟨c1, c2, c3, c4⟩ := hC.out w' hw'; go_simp; (try with_reducible rfl))
          (try simp only [Act.put, List.setIfInBounds_toArray, List.set_cons_zero, List.set_cons_succ])
          refine De.Det.read (o := ?o6) (v := ?v6) 5 ?q6 (by kernel_rfl) (by kernel_rfl) ?w6 ?y6 ?h6
          case q6 => (simp only [List.getElem?_toArray, List.getElem?_cons_succ, List.getElem?_cons_zero]; rfl)
          case w6 => kernel_rfl
          case y6 => (intro w' hw'; obtain ⟨c1, c2, c3, c4⟩ := hC.out w' hw'; go_simp; (try with_reducible rfl))
          (try simp only [Act.put, List.setIfInBounds_toArray, List.set_cons_zero, List.set_cons_succ])
          refine De.Det.base ?_
          refine De.Det2.done (by kernel_rfl) ?_
          rintro w3 ⟨hb_w3, hO_w3⟩
          clear hO_w3
          have hbz : Below w2.heap.size w2 w3 := hb.trans (Below.mono (w := wa) (w' := w3) ⟨hb_w3.os, hb_w3.tape, hb_w3.output, hb_w3.size, hb_w3.block⟩ hb.size)
          go_wp2_with (fail)
          go_ret
          exact ⟨⟨_, rfl, by simp; exact List.mem_of_getElem? hX.out⟩, hb2.trans (hbz.mono hb2.size)⟩
        · have hne := Lib.hid (show ¬ (a = a ∧ b = y) from fun e => hby e.2)
          refine De.region_det (by kernel_rfl) (by kernel_rfl) ?_
          refine De.Det.read (o := ?o7) (v := ?v7) 0 ?q7 (by kernel_rfl) (by kernel_rfl) ?w7 ?y7 ?h7
          case q7 => (simp only [List.getElem?_toArray, List.getElem?_cons_succ, List.getElem?_cons_zero]; rfl)
          case w7 => kernel_rfl
          case y7 => (intro w' hw'; obtain ⟨c1, c2, c3, c4⟩ := hC.out w' hw'; go_simp; (try with_reducible rfl))
          (try simp only [Act.put, List.setIfInBounds_toArray, List.set_cons_zero, List.set_cons_succ])
          refine De.Det.read (o := ?o8) (v := ?v8) 1 ?q8 (by kernel_rfl) (by kernel_rfl) ?w8 ?y8 ?h8
          case q8 => (simp only [List.getElem?_toArray, List.getElem?_cons_succ, List.getElem?_cons_zero]; rfl)
          case w8 => kernel_rfl
          case y8 => (intro w' hw'; obtain ⟨c1, c2, c3, c4⟩ := hC.out w' hw'; go_simp; (try with_reducible rfl))
          (try simp only [Act.put, List.setIfInBounds_toArray, List.set_cons_zero, List.set_cons_succ])
          refine De.Det.read (o := ?o9) (v := ?v9) 2 ?q9 (by kernel_rfl) (by kernel_rfl) ?w9 ?y9 ?h9
          case q9 => (simp only [List.getElem?_toArray, List.getElem?_cons_succ, List.getElem?_cons_zero]; rfl)
          case w9 => kernel_rfl
          case y9 => (intro w' hw'; obtain ⟨c1, c2, c3, c4⟩ := hC.out w' hw'; go_simp; (try with_reducible rfl))
          (try simp only [Act.put, List.setIfInBounds_toArray, List.set_cons_zero, List.set_cons_succ])
          refine De.Det.read (o := ?o10) (v := ?v10) 3 ?q10 (by kernel_rfl) (by kernel_rfl) ?w10 ?y10 ?h10
          case q10 => (simp only [List.getElem?_toArray, List.getElem?_cons_succ, List.getElem?_cons_zero]; rfl)
          case w10 => kernel_rfl
          case y10 => (intro w' hw'; obtain ⟨c1, c2, c3, c4⟩ := hC.out w' hw'; go_simp; (try with_reducible rfl))
          (try simp only [Act.put, List.setIfInBounds_toArray, List.set_cons_zero, List.set_cons_succ])
          refine De.Det.read (o := ?o11) (v := ?v11) 4 ?q11 (by kernel_rfl) (by kernel_rfl) ?w11 ?y11 ?h11
          case q11 => (simp only [List.getElem?_toArray, List.getElem?_cons_succ, List.getElem?_cons_zero]; rfl)
          case w11 => kernel_rfl
          case y11 => (intro w' hw'; obtain ⟨c1, c2, c3, c4⟩ := hC.out w' hw'; go_simp; (try with_reducible rfl))
          (try simp only [Act.put, List.setIfInBounds_toArray, List.set_cons_zero, List.set_cons_succ])
          refine De.Det.read (o := ?o12) (v := ?v12) 5 ?q12 (by kernel_rfl) (by kernel_rfl) ?w12 ?y12 ?h12
          case q12 => (simp only [List.getElem?_toArray, List.getElem?_cons_succ, List.getElem?_cons_zero]; rfl)
          case w12 => kernel_rfl
          case y12 => (intro w' hw'; obtain ⟨c1, c2, c3, c4⟩ := hC.out w' hw'; go_simp; (try with_reducible rfl))
          (try simp only [Act.put, List.setIfInBounds_toArray, List.set_cons_zero, List.set_cons_succ])
          refine De.Det.base ?_
          refine De.Det2.done (by kernel_rfl) ?_
          rintro w3 ⟨hb_w3, hO_w3⟩
          clear hO_w3
          have hbz : Below w2.heap.size w2 w3 := hb.trans (Below.mono (w := wa) (w' := w3) ⟨hb_w3.os, hb_w3.tape, hb_w3.output, hb_w3.size, hb_w3.block⟩ hb.size)
          go_wp2_with (fail)
          go_roundw
          case rel => exact ⟨k + 1, by omega, by go_num, fun i hi => by
              rcases Nat.lt_or_ge i k with h | h
              · exact hno'.out i h
              · obtain rfl : i = k := by omega
                rw [hX.out]
                intro e
                injection e with e
                injection e with e1 e2
                exact hne.out ⟨e1.symm, e2.symm⟩, hbz⟩
          case measure => simp [intOf]; omega
      · have hne := Lib.hid (show ¬ (a = x ∧ b = y) from fun e => hax e.1)
        refine De.region_det (by kernel_rfl) (by kernel_rfl) ?_
        refine De.Det.read (o := ?o13) (v := ?v13) 0 ?q13 (by kernel_rfl) (by kernel_rfl) ?w13 ?y13 ?h13
        case q13 => (simp only [List.getElem?_toArray, List.getElem?_cons_succ, List.getElem?_cons_zero]; rfl)
        case w13 => kernel_rfl
        case y13 => (intro w' hw'; obtain ⟨c1, c2, c3, c4⟩ := hC.out w' hw'; go_simp; (try with_reducible rfl))
        (try simp only [Act.put, List.setIfInBounds_toArray, List.set_cons_zero, List.set_cons_succ])
        refine De.Det.read (o := ?o14) (v := ?v14) 1 ?q14 (by kernel_rfl) (by kernel_rfl) ?w14 ?y14 ?h14
        case q14 => (simp only [List.getElem?_toArray, List.getElem?_cons_succ, List.getElem?_cons_zero]; rfl)
        case w14 => kernel_rfl
        case y14 => (intro w' hw'; obtain ⟨c1, c2, c3, c4⟩ := hC.out w' hw'; go_simp; (try with_reducible rfl))
        (try simp only [Act.put, List.setIfInBounds_toArray, List.set_cons_zero, List.set_cons_succ])
        refine De.Det.read (o := ?o15) (v := ?v15) 2 ?q15 (by kernel_rfl) (by kernel_rfl) ?w15 ?y15 ?h15
        case q15 => (simp only [List.getElem?_toArray, List.getElem?_cons_succ, List.getElem?_cons_zero]; rfl)
        case w15 => kernel_rfl
        case y15 => (intro w' hw'; obtain ⟨c1, c2, c3, c4⟩ := hC.out w' hw'; go_simp; (try with_reducible rfl))
        (try simp only [Act.put, List.setIfInBounds_toArray, List.set_cons_zero, List.set_cons_succ])
        refine De.Det.read (o := ?o16) (v := ?v16) 3 ?q16 (by kernel_rfl) (by kernel_rfl) ?w16 ?y16 ?h16
        case q16 => (simp only [List.getElem?_toArray, List.getElem?_cons_succ, List.getElem?_cons_zero]; rfl)
        case w16 => kernel_rfl
        case y16 => (intro w' hw'; obtain ⟨c1, c2, c3, c4⟩ := hC.out w' hw'; go_simp; (try with_reducible rfl))
        (try simp only [Act.put, List.setIfInBounds_toArray, List.set_cons_zero, List.set_cons_succ])
        refine De.Det.read (o := ?o17) (v := ?v17) 4 ?q17 (by kernel_rfl) (by kernel_rfl) ?w17 ?y17 ?h17
        case q17 => (simp only [List.getElem?_toArray, List.getElem?_cons_succ, List.getElem?_cons_zero]; rfl)
        case w17 => kernel_rfl
        case y17 => (intro w' hw'; obtain ⟨c1, c2, c3, c4⟩ := hC.out w' hw'; go_simp; (try with_reducible rfl))
        (try simp only [Act.put, List.setIfInBounds_toArray, List.set_cons_zero, List.set_cons_succ])
        refine De.Det.read (o := ?o18) (v := ?v18) 5 ?q18 (by kernel_rfl) (by kernel_rfl) ?w18 ?y18 ?h18
        case q18 => (simp only [List.getElem?_toArray, List.getElem?_cons_succ, List.getElem?_cons_zero]; rfl)
        case w18 => kernel_rfl
        case y18 => (intro w' hw'; obtain ⟨c1, c2, c3, c4⟩ := hC.out w' hw'; go_simp; (try with_reducible rfl))
        (try simp only [Act.put, List.setIfInBounds_toArray, List.set_cons_zero, List.set_cons_succ])
        refine De.Det.base ?_
        refine De.Det2.done (by kernel_rfl) ?_
        rintro w3 ⟨hb_w3, hO_w3⟩
        clear hO_w3
        have hbz : Below w2.heap.size w2 w3 := hb.trans (Below.mono (w := wa) (w' := w3) ⟨hb_w3.os, hb_w3.tape, hb_w3.output, hb_w3.size, hb_w3.block⟩ hb.size)
        go_wp2_with (fail)
        go_roundw
        case rel => exact ⟨k + 1, by omega, by go_num, fun i hi => by
            rcases Nat.lt_or_ge i k with h | h
            · exact hno'.out i h
            · obtain rfl : i = k := by omega
              rw [hX.out]
              intro e
              injection e with e
              injection e with e1 e2
              exact hne.out ⟨e1.symm, e2.symm⟩, hbz⟩
        case measure => simp [intOf]; omega
    · obtain rfl : n = k := by omega
      go_wp2_with (fail)
      go_ret
      refine ⟨⟨_, rfl, ?_⟩, hbw⟩
      have : (a, b) ∉ o := fun hm => by
        obtain ⟨i, hi, e⟩ := List.getElem_of_mem hm
        exact hno i (by rw [← hN.out]; exact hi) (by rw [List.getElem?_eq_getElem hi, e])
      simp [this]
theorem contains_ok (A : Option Addr) (n c : Nat) (o : List Pt) (p : Pt) (hn : o.length = n) (h8 : n ≤ 100) (w : World) (hP : PtS w A o) :
    Calls Tryd.prog 12 #[.slice A n c, ptV p] w fun e w' => e = .returned (.bool (decide (p ∈ o))) ∧ Below w.heap.size w w' := by
  have hI := Lib.hid (fun w' (hb : Below w.heap.size w w') => index_ok A n c o p hn h8 w' (hP.below hb))
  obtain ⟨q, hq⟩ : ∃ q, decide (p ∈ o) = q := ⟨_, rfl⟩
  rw [hq] at hI ⊢
  obtain ⟨a, b⟩ := p
  clear hP hn hq
  unfold ptV
  go_enter Tryd.func12, Tryd.ntmps12
  go_wp2_with (first
    | (with_reducible show wpList _ _ _ (⟨some 3, .box 35 _, _, _, _, _⟩ :: _) _ _
       refine wpList_box_blk rfl 35 _ rfl #[.int .i64 a, .int .i64 b] rfl ?_
       intro w2 g2 hG2 hgr2 hge2
       have hb2 := below_none (Below.refl w.heap.size w) hgr2 (Nat.le_refl _)
       have c0 : w2.cell? ⟨g2, 0, none⟩ = some (.int .i64 a) := hG2.cell 0
       have c1 : w2.cell? ⟨g2, 1, none⟩ = some (.int .i64 b) := hG2.cell 1
       clear hgr2)
    | (go_at_call 26; (with_reducible refine (hI.out _ hb2).mono ?_); rintro e w5 ⟨⟨i, rfl, hi⟩, hb5⟩
       have hb6 := hb2.trans (hb5.mono hb2.size)
       replace hi := Lib.hid hi))
  go_ret
  exact ⟨ret_bool hi.out, hb6⟩
end Du
end Go.Proofs.YtkbfmogjhjdjmaaDoor
-- the text DuG
namespace Go.Proofs.YtkbfmogjhjdjmaaDoor
open Go.RowKit
namespace Du
set_option linter.unusedSimpArgs false
theorem PtS.take {w : World} {A : Option Addr} {o : List Pt} (h : PtS w A o) (k : Nat) : PtS w A (o.take k) := by
  rcases h with h | ⟨g, cs, e, hB, hc⟩
  · exact Or.inl (by rw [h]; simp)
  · refine Or.inr ⟨g, cs, e, hB, fun i p hi => hc i p ?_⟩
    rw [List.getElem?_take] at hi
    split at hi
    · exact hi
    · cases hi
theorem within_yes (n a b : Int) (h1 : a ≤ n) (h2 : n ≤ b) (w : World) : Calls Tryd.prog 28 #[.int .i64 n, .int .i64 a, .int .i64 b] w fun e w' => e = .returned (.bool true) ∧ w = w' :=
  (within_any n a b w).mono fun e w' ⟨h, hw⟩ => ⟨by rw [h]; simp [h1, h2], hw.symm⟩
def In12 (o : List Pt) : Prop := ∀ p ∈ o, 0 ≤ p.1 ∧ p.1 ≤ 12 ∧ 0 ≤ p.2 ∧ p.2 ≤ 12
theorem In12.sm {o : List Pt} (h : In12 o) : SmL 12 o := fun p hp => by
  have := h p hp
  exact ⟨by omega, by omega, by omega, by omega⟩
set_option maxRecDepth 100000 in
set_option maxHeartbeats 1000000 in
theorem laid_ok (A : Option Addr) (n c : Nat) (o : List Pt) (hn : o.length = n) (h3 : 3 ≤ n) (h8 : n ≤ 8) (hcap : n ≤ c) (hI : In12 o) (hD : o.Nodup) (w : World) (hP : PtS w A o) :
    Calls Tryd.prog 17 #[.slice A n c] w fun e w' => e = .returned (.int .i64 0) ∧ Below w.heap.size w w' := by
  have hcon := Lib.hid (fun w' (hb : Below w.heap.size w w') (k cc : Nat) (p : Pt) (hk : k < n) (hp : o[k]? = some p) => contains_ok A k cc (o.take k) p (by rw [List.length_take]; omega) (by omega) w' ((hP.below hb).take k))
  have hnot : Hid (∀ (k : Nat) (p : Pt), o[k]? = some p → p ∉ o.take k) := fun k p hp hm => by
    obtain ⟨i, hi, e⟩ := List.getElem_of_mem hm
    rw [List.length_take] at hi
    rw [List.getElem_take] at e
    have hk := (List.getElem?_eq_some_iff.1 hp)
    obtain ⟨hk1, hk2⟩ := hk
    exact List.pairwise_iff_getElem.1 hD i k (by omega) hk1 (by omega) (e.trans hk2.symm)
  have hget := Lib.hid (fun i (hi : i < n) => get_at (o := o) (i := i) (hn ▸ hi))
  have hb12 := Lib.hid (fun k p (hp : o[k]? = some p) => hI p (List.mem_of_getElem? hp))
  obtain ⟨g, rfl, hgl, hcell⟩ := hP.cells (by omega)
  replace hcell := Lib.hid hcell
  clear hP hn hD hI
  have h3i : (3 : Int) ≤ n := by omega
  have h8i : (n : Int) ≤ 8 := by omega
  go_enter Tryd.func17, Tryd.ntmps17
  go_wp2_with (fail)
  go_loopw [15] (fun v wr => ∃ k : Nat, k ≤ n ∧ v = .int .i64 k ∧ Below w.heap.size w wr) (fun v _ => n - (intOf v).toNat)
  case atStart => exact ⟨0, by omega, rfl, Below.refl _ _⟩
  case round =>
    obtain ⟨k, hk, rfl, hb⟩ := hrel
    obtain ⟨wa, rfl⟩ : ∃ x, x = wr := ⟨wr, rfl⟩
    by_cases hlt : k < n
    · have hlti : (k : Int) < n := by omega
      have hp := hget.out k hlt
      obtain ⟨p, hpp⟩ : ∃ p, at' o k = p := ⟨_, rfl⟩
      rw [hpp] at hp
      obtain ⟨b1, b2, b3, b4⟩ := hb12.out k p hp
      obtain ⟨c0, c1⟩ := hcell.out wa hb k p hp
      have hcc := Lib.hid (fun w' (hb' : Below w.heap.size w w') => hcon.out w' hb' k c p hlt hp)
      have hnn := Lib.hid (hnot.out k p hp)
      clear hp hpp
      obtain ⟨a, b⟩ := p
      simp only [] at b1 b2 b3 b4 c0 c1
      go_wp2_with (first
        | (with_reducible show wpList _ _ _ (⟨_, .alloc 35, _, _, _, _⟩ :: _) _ _
           refine wpList_alloc_blk rfl 35 rfl _ zero_pt ?_
           intro w3 g3 hG3 hgr3 hge3
           have hb3 := below_none hb hgr3 hb.size)
        | (with_reducible show wpList _ _ _ (⟨_, .store 35 _ _, _, _, _, _⟩ :: _) _ _
           refine wpList_store_blk rfl 35 _ _ rfl g3 #[.int .i64 a, .int .i64 b] rfl rfl 35 _ hG3 info_pt rfl (by simp [Value.oneCell']) ?_
           intro w4 hG4 hgr4
           have hge := hb.size
           have hb4 := below_some hb3 hgr4 hb3.size (by omega)
           have f1 : w4.cell? ⟨g3, 0, none⟩ = some (.int .i64 a) := hG4.cell 0
           have f2 : w4.cell? ⟨g3, 1, none⟩ = some (.int .i64 b) := hG4.cell 1)
        | (go_at_call 28; (with_reducible refine (within_yes _ _ _ (by omega) (by omega) _).mono ?_); rintro e w' ⟨rfl, rfl⟩))
      have hC : Hid (∀ w', Below w4.drew.heap.size w4.drew w' → w'.cell? ⟨g3, 0, none⟩ = some (.int .i64 a) ∧ w'.cell? ⟨g3, 1, none⟩ = some (.int .i64 b)) := fun w' hw => by
        have hB := hG4.drew.callee hw
        exact ⟨hB.cell 0, hB.cell 1⟩
      have hk0 : (0 : Int) ≤ k := by omega
      have hkc : (k : Int) ≤ c := by omega
      have hcall : Hid (∀ w', Below w4.drew.heap.size w4.drew w' → Calls Tryd.prog 12 #[.slice (some ⟨g, 0, none⟩) k c, ptV (a, b)] w' fun e w'' => e = .returned (.bool false) ∧ Below w'.heap.size w' w'') := fun w' hw =>
        (hcc.out w' (hb4.trans (Below.mono (w := w4) (w' := w') ⟨hw.os, hw.tape, hw.output, hw.size, hw.block⟩ hb4.size))).mono fun e w'' ⟨h1, h2⟩ => ⟨by rw [h1]; simp [hnn.out], h2⟩
      refine De.region_det (by kernel_rfl) (by kernel_rfl) ?_
      refine De.Det.read (o := ?o1) (v := ?v1) 0 ?q1 (by kernel_rfl) (by kernel_rfl) ?w1 ?y1 ?h1
      case q1 => (simp only [List.getElem?_toArray, List.getElem?_cons_succ, List.getElem?_cons_zero]; rfl)
      case w1 => kernel_rfl
      case y1 => (intro w' hw'; obtain ⟨c1, c2⟩ := hC.out w' hw'; go_simp; (try with_reducible rfl))
      (try simp only [Act.put, List.setIfInBounds_toArray, List.set_cons_zero, List.set_cons_succ])
      refine De.Det.read (o := ?o2) (v := ?v2) 1 ?q2 (by kernel_rfl) (by kernel_rfl) ?w2 ?y2 ?h2
      case q2 => (simp only [List.getElem?_toArray, List.getElem?_cons_succ, List.getElem?_cons_zero]; rfl)
      case w2 => kernel_rfl
      case y2 => (intro w' hw'; obtain ⟨c1, c2⟩ := hC.out w' hw'; go_simp; (try with_reducible rfl))
      (try simp only [Act.put, List.setIfInBounds_toArray, List.set_cons_zero, List.set_cons_succ])
      refine De.Det.read (o := ?o3) (v := ?v3) 2 ?q3 (by kernel_rfl) (by kernel_rfl) ?w3 ?y3 ?h3
      case q3 => (simp only [List.getElem?_toArray, List.getElem?_cons_succ, List.getElem?_cons_zero]; rfl)
      case w3 => kernel_rfl
      case y3 => (intro w' hw'; obtain ⟨c1, c2⟩ := hC.out w' hw'; go_simp; (try with_reducible rfl))
      (try simp only [Act.put, List.setIfInBounds_toArray, List.set_cons_zero, List.set_cons_succ])
      refine De.Det.read (o := ?o4) (v := ?v4) 3 ?q4 (by kernel_rfl) (by kernel_rfl) ?w4 ?y4 ?h4
      case q4 => (simp only [List.getElem?_toArray, List.getElem?_cons_succ, List.getElem?_cons_zero]; rfl)
      case w4 => kernel_rfl
      case y4 => (intro w' hw'; obtain ⟨c1, c2⟩ := hC.out w' hw'; go_simp; (try with_reducible rfl))
      (try simp only [Act.put, List.setIfInBounds_toArray, List.set_cons_zero, List.set_cons_succ])
      refine De.Det.call (o := ?o5) (v := ?v5) (f := ?f5) (args := ?g5) 4 ?q5 (by kernel_rfl) (by kernel_rfl) ?w5 ?e5 ?c5 ?h5
      case q5 => (simp only [List.getElem?_toArray, List.getElem?_cons_succ, List.getElem?_cons_zero]; rfl)
      case w5 => kernel_rfl
      case e5 => (intro w'; go_simp; refine ⟨?_, ?_⟩ <;> with_reducible rfl)
      case c5 => (intro w' hw'; exact (hcall.out w' hw'))
      (try simp only [Act.put, List.setIfInBounds_toArray, List.set_cons_zero, List.set_cons_succ])
      refine De.Det.read (o := ?o6) (v := ?v6) 5 ?q6 (by kernel_rfl) (by kernel_rfl) ?w6 ?y6 ?h6
      case q6 => (simp only [List.getElem?_toArray, List.getElem?_cons_succ, List.getElem?_cons_zero]; rfl)
      case w6 => kernel_rfl
      case y6 => (intro w' hw'; obtain ⟨c1, c2⟩ := hC.out w' hw'; go_simp; (try with_reducible rfl))
      (try simp only [Act.put, List.setIfInBounds_toArray, List.set_cons_zero, List.set_cons_succ])
      refine De.Det.base ?_
      refine De.Det2.done (by kernel_rfl) ?_
      rintro w5 ⟨hb_w5, hO_w5⟩
      clear hO_w5
      have hbz := hb4.trans (Below.mono (w := w4) (w' := w5) ⟨hb_w5.os, hb_w5.tape, hb_w5.output, hb_w5.size, hb_w5.block⟩ hb4.size)
      go_wp2_with (fail)
      go_roundw
      case rel => exact ⟨k + 1, by omega, by go_num, hbz⟩
      case measure => simp [intOf]; omega
    · obtain rfl : n = k := by omega
      go_wp2_with (fail)
      go_ret
      exact ⟨rfl, hb⟩
end Du
end Go.Proofs.YtkbfmogjhjdjmaaDoor
-- the text DuH
namespace Go.Proofs.YtkbfmogjhjdjmaaDoor
open Go.RowKit
namespace Du
set_option linter.unusedSimpArgs false
theorem at_mod {o : List Pt} {n i j : Nat} (hn : o.length = n) (h0 : 0 < n) (hj : i % n = j) : j < n ∧ o[j]? = some (at' o i) := by
  subst hn hj
  have hl : i % o.length < o.length := Nat.mod_lt _ h0
  refine ⟨hl, ?_⟩
  unfold at'
  rw [List.getD_eq_getElem?_getD, List.getElem?_eq_getElem hl]
  rfl
theorem tmod_nat (m n : Nat) : Int.tmod (m : Int) n = ((m % n : Nat) : Int) := by
  rw [Int.tmod_eq_emod_of_nonneg (by omega)]
  rfl
theorem at_add {o : List Pt} (i : Nat) : at' o (i + o.length) = at' o i := by
  unfold at'
  rw [Nat.add_mod_right]
theorem at_mod_at {o : List Pt} (i : Nat) : at' o (i % o.length) = at' o i := by
  unfold at'
  rw [Nat.mod_mod]
section
variable (A : Option Addr) (n c : Nat) (o : List Pt) (hn : o.length = n) (h0 : 0 < n) (h8 : n ≤ 8) (w : World) (hP : PtS w A o)
include hn h0 h8 hP
/-- the corner number i (i at most n), and the one before -/
theorem at_nat (i : Nat) (hi : i ≤ 100) : Calls Tryd.prog 15 #[.slice A n c, .int .i64 i] w fun e w' => e = .returned (ptV (at' o i)) ∧ Below w.heap.size w w' := by
  obtain ⟨h1, h2⟩ := at_mod (i := i + n) hn h0 rfl
  have h2' : o[(i + n) % n]? = some (at' o i) := by rw [h2, ← hn, at_add]
  exact at_ok A n c ((i + n) % n) o (at' o i) i (by omega) (by omega) (tmod_nat (i + n) n) h1 h2' w hP
theorem at_prev (i : Nat) (hi : i ≤ 100) : Calls Tryd.prog 15 #[.slice A n c, .int .i64 ((i : Int) - 1)] w fun e w' => e = .returned (ptV (prev o i)) ∧ Below w.heap.size w w' := by
  obtain ⟨h1, h2⟩ := at_mod (i := i + n - 1) hn h0 rfl
  have h2' : o[(i + n - 1) % n]? = some (prev o i) := by rw [h2, ← hn]; rfl
  refine at_ok A n c ((i + n - 1) % n) o (prev o i) _ (by omega) (by omega) ?_ h1 h2' w hP
  rw [← tmod_nat]
  congr 1
  omega
theorem side_nat (i : Nat) (hi : i ≤ 100) : Calls Tryd.prog 18 #[.slice A n c, .int .i64 i] w fun e w' => e = .returned (sdV (at' o i) (at' o (i + 1))) ∧ Below w.heap.size w w' := by
  obtain ⟨h1, h2⟩ := at_mod (i := i + n) hn h0 rfl
  have h2' : o[(i + n) % n]? = some (at' o i) := by rw [h2, ← hn, at_add]
  obtain ⟨k1, k2⟩ := at_mod (i := i + 1 + n) hn h0 rfl
  have k2' : o[(i + 1 + n) % n]? = some (at' o (i + 1)) := by rw [k2, ← hn, at_add]
  exact side_ok A n c ((i + n) % n) ((i + 1 + n) % n) o _ _ i (by omega) (by omega) (tmod_nat (i + n) n) h1 h2' (tmod_nat (i + 1 + n) n) k1 k2' w hP
theorem side_prev (i : Nat) (hi : i < n) : Calls Tryd.prog 18 #[.slice A n c, .int .i64 ((i : Int) - 1)] w fun e w' => e = .returned (sdV (prev o i) (at' o i)) ∧ Below w.heap.size w w' := by
  obtain ⟨h1, h2⟩ := at_mod (i := i + n - 1) hn h0 rfl
  have h2' : o[(i + n - 1) % n]? = some (prev o i) := by rw [h2, ← hn]; rfl
  obtain ⟨k1, k2⟩ := at_mod (i := i + n) hn h0 rfl
  have k2' : o[(i + n) % n]? = some (at' o i) := by rw [k2, ← hn, at_add]
  refine side_ok A n c ((i + n - 1) % n) ((i + n) % n) o _ _ _ (by omega) (by omega) ?_ h1 h2' ?_ k1 k2' w hP
  · rw [← tmod_nat]
    congr 1
    omega
  · rw [← tmod_nat]
    congr 1
    omega
end
theorem at_sm {o : List Pt} (h : SmL 12 o) (h0 : 0 < o.length) (i : Nat) : Sm 12 (at' o i) := h.at_ (at_mod rfl h0 rfl).2
/-- the test of side i against side k -/
def apartB (o : List Pt) (i k : Nat) : Bool := !decide (i - k < o.length - 1) || decide (meetsS (at' o i) (at' o (i + 1)) (at' o k) (at' o (k + 1)) = .none)
theorem sideOk_eq (o : List Pt) (i : Nat) : sideOk o i = (!hasS (prev o i) (at' o i) (at' o (i + 1)) && !hasS (at' o i) (at' o (i + 1)) (prev o i) && (List.range (i - 1)).all (apartB o i)) := rfl
def chkE (o : List Pt) : Int := if pieceOk o then 0 else 5
theorem chk_bad {o : List Pt} {i : Nat} (hi : i < o.length) (h : sideOk o i = false) : chkE o = 5 := by
  unfold chkE
  rw [if_neg]
  intro hp
  have := List.all_eq_true.1 hp i (List.mem_range.2 hi)
  rw [h] at this
  cases this
theorem chk_good {o : List Pt} (h : ∀ i, i < o.length → sideOk o i = true) : chkE o = 0 := by
  unfold chkE
  rw [if_pos]
  exact List.all_eq_true.2 fun i hi => h i (List.mem_range.1 hi)
theorem side_bad {o : List Pt} {i k : Nat} (hk : k < i - 1) (h : apartB o i k = false) : sideOk o i = false := by
  rw [sideOk_eq]
  have : (List.range (i - 1)).all (apartB o i) = false := by
    rw [Bool.eq_false_iff]
    intro ha
    have := List.all_eq_true.1 ha k (List.mem_range.2 hk)
    rw [h] at this
    cases this
  rw [this, Bool.and_false]
theorem side_good {o : List Pt} {i : Nat} (h1 : hasS (prev o i) (at' o i) (at' o (i + 1)) = false) (h2 : hasS (at' o i) (at' o (i + 1)) (prev o i) = false) (h : ∀ k, k < i - 1 → apartB o i k = true) : sideOk o i = true := by
  rw [sideOk_eq, h1, h2]
  exact List.all_eq_true.2 fun k hk => h k (List.mem_range.1 hk)
end Du
end Go.Proofs.YtkbfmogjhjdjmaaDoor
