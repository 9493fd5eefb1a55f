/- packet's ways, walked. -/
import Derived.Test.YtbgakdpbglpfaaaGreatDoorJdi
import Derived.Test.YtbgakdpbglpfaaaGreatDoorJpl
import Derived.Test.YtbgakdpbglpfaaaGreatDoorJmd
namespace Go.Proofs.YtbgakdpbglpfaaaGreatDoor
open Go.RowKit
namespace Dr
set_option linter.unusedSimpArgs false
section
variable {w : World}
/-- the row while the size s comes in: below x turned, from x on as it was -/
def midW (o : List Nat) (s m x : Nat) : List Nat := (List.range x).map (sumW o s m) ++ o.drop x
theorem midW_len {o : List Nat} (ho : o.length = 1001) {s m x : Nat} (hx : x ≤ 1001) : (midW o s m x).length = 1001 := by
  unfold midW
  rw [List.length_append, List.length_map, List.length_range, List.length_drop]
  omega
theorem midW_start {o : List Nat} {s m : Nat} (ho : o.length = 1001) (hs : s ≤ 1001) : midW o s m s = o := by
  unfold midW
  apply List.ext_getElem?
  intro i
  by_cases hi : i < s
  · rw [List.getElem?_append_left (by rw [List.length_map, List.length_range]; exact hi), List.getElem?_map, List.getElem?_range hi, Option.map_some, sumW_small hi, List.getD_eq_getElem?_getD, List.getElem?_eq_getElem (by omega)]
    rfl
  · rw [List.getElem?_append_right (by rw [List.length_map, List.length_range]; omega), List.length_map, List.length_range, List.getElem?_drop]
    congr 1
    omega
theorem midW_end {o : List Nat} {s m : Nat} (ho : o.length = 1001) : midW o s m 1001 = wayL o s m := by
  unfold midW wayL
  rw [List.drop_of_length_le (by omega), List.append_nil]
theorem midW_here {o : List Nat} {s m x : Nat} : (midW o s m x)[x]? = o[x]? := by
  unfold midW
  rw [List.getElem?_append_right (by rw [List.length_map, List.length_range]; exact Nat.le_refl _), List.length_map, List.length_range, Nat.sub_self, List.getElem?_drop, Nat.add_zero]
theorem midW_below {o : List Nat} {s m x y : Nat} (h : y < x) : (midW o s m x)[y]? = some (sumW o s m y) := by
  unfold midW
  rw [List.getElem?_append_left (by rw [List.length_map, List.length_range]; exact h), List.getElem?_map, List.getElem?_range h, Option.map_some]
theorem midW_next {o : List Nat} {s m x : Nat} (ho : o.length = 1001) (hx : x < 1001) : (midW o s m x).set x (sumW o s m x) = midW o s m (x + 1) := by
  unfold midW
  rw [List.set_append_right _ _ (by rw [List.length_map, List.length_range]; exact Nat.le_refl _), List.length_map, List.length_range, Nat.sub_self, List.range_succ, List.map_append, List.append_assoc]
  congr 1
  rw [List.drop_eq_getElem_cons (show x < o.length by omega), List.set_cons_zero]
  rfl
theorem ad_blk (a : Addr) (n : Nat) : (a.add n).block = a.block := by unfold Addr.add; split <;> rfl
theorem natI_some {xs : List Nat} {i : Nat} {z : Int} (h : (natI xs)[i]? = some z) : ∃ x, xs[i]? = some x ∧ z = (x : Int) := by
  unfold natI at h
  rw [List.getElem?_map] at h
  cases hx : xs[i]? with
  | none => rw [hx] at h; cases h
  | some x => rw [hx] at h; exact ⟨x, rfl, (Option.some.inj h).symm⟩
set_option maxRecDepth 100000 in
set_option maxHeartbeats 4000000 in
theorem ways_ok (A : Option Addr) (K c : Nat) (A2 : Option Addr) (c2 : Nat) (ss ms : List Nat) (hS : Pk.Stk ss ms) (w : World) (B : Nat) (hB : B ≤ w.heap.size) (hr : RInts w B A K (natI ss)) (hr2 : RInts w B A2 K (natI ms)) :
    Calls Tryz.prog 140 #[.agg (Pk.stC A K c A2 K c2)] w fun e w' => ∃ v, e = .returned v ∧ NewN w w' v (waysL (ss.zip ms)) ∧ Below w.heap.size w w' := by
  have hK1 : ss.length = K := by simpa [natI] using hr.len
  have h1 := hS.siz.one
  have h5 := hS.siz.five
  have hK5 : K ≤ 5 := by omega
  have HSH := Lib.hid hS
  have hHSlen := hS.len
  obtain ⟨T, hT⟩ : ∃ T, Pk.stC A K c A2 K c2 = T := ⟨_, rfl⟩
  have hT0 : T[0]? = some (.slice A K c) := by rw [← hT]; rfl
  have hT1 : T[1]? = some (.slice A2 K c2) := by rw [← hT]; rfl
  rw [hT]
  clear hT
  obtain ⟨R0, hR0⟩ : ∃ q, intArr (List.replicate 1001 0) = q := ⟨_, rfl⟩
  have hmk : ∀ w : World, (Instr.makeSlice 40 (.int .i64 1001) (.int .i64 1001)).run Tryz.prog w = .ok (.slice (some ⟨w.heap.size, 0, none⟩) 1001 1001) (w.alloc (.cells R0 3)) := fun w => by
    rw [← hR0, ← intArr_made]
    exact run_make_row' (P := Tryz.prog) 40 3 (.int .i64 0) 8 Tryz.underlying40 infoInt rfl .i64 .i64 1001 (by omega) (by omega) w
  have hR00 : R0[0]? = some (.int .i64 0) := by rw [← hR0, intArr_at]; rfl
  have HR0 := Lib.hid hR0
  clear hR0
  obtain ⟨Z, hZ⟩ : ∃ q, waysL (ss.zip ms) = q := ⟨_, rfl⟩
  rw [hZ]
  replace hZ := Lib.hid hZ
  go_enter Tryz.func140, Tryz.ntmps140
  go_wp2_with (first
    | (with_reducible show wpList _ _ _ (⟨_, .box 152 _, _, _, _, _⟩ :: _) _ _
       refine wpList_box_blk rfl 152 _ rfl T rfl ?_
       intro w1 g1 hG1 hgr1 hge1
       have hb1 := below_none (Below.refl w.heap.size w) hgr1 (Nat.le_refl _)
       have hBn := Blk.new w1 3 R0
       have hcn := hBn.at_ 0 hR00
       have hfn := hBn.frozen 0
       have hG3 := hG1.alloc (.cells (R0.setIfInBounds 0 (.int .i64 1)) 3)
       have hc3 := hG3.at_ 0 hT0
       have hB3 := Blk.new w1 3 (R0.setIfInBounds 0 (.int .i64 1))
       have hb3 := hb1.alloc hb1.size (.cells (R0.setIfInBounds 0 (.int .i64 1)) 3)))
  have hO3 : OwnN (w1.alloc (.cells (R0.setIfInBounds 0 (.int .i64 1)) 3)) (.slice (some ⟨w1.heap.size, 0, none⟩) 1001 1001) way0 := by
    have hsz : (R0.setIfInBounds 0 (.int .i64 1)).size = 1001 := by
      rw [Array.size_setIfInBounds, ← HR0.out]; simp [intArr, ints]
    refine own_of_blk hB3 hsz (by rw [way0_len]; exact Nat.le_refl _) (by decide) way0_len.symm ?_
    intro j hj
    rw [← HR0.out, intArr_set, show natI way0 = (List.replicate 1001 (0 : Int)).set 0 1 from ?_]
    · unfold intArr
      rw [List.getElem?_toArray]
    unfold way0
    rw [show (1 : Int) = ((1 : Nat) : Int) from rfl, ← natI_set]
    congr 1
  have hge3 := hb1.size
  have hlt3 := hB3.lt
  clear hBn hcn hfn hB3 hc3 hmk hR00 HR0 hge1 hgr1 hb1 hG1
  generalize w1.heap.size = g0 at *
  generalize w1.alloc (.cells (R0.setIfInBounds 0 (.int .i64 1)) 3) = w3 at *
  clear w1 R0
  go_loopw [3, 15] (fun o v wr => ∃ k g0 cc : Nat, k ≤ K ∧ v = .int .i64 k ∧ o = .slice (some ⟨g0, 0, none⟩) 1001 cc ∧ w.heap.size ≤ g0 ∧ OwnN wr (.slice (some ⟨g0, 0, none⟩) 1001 cc) (waysL ((ss.zip ms).take k)) ∧ Blk wr g1 152 T ∧ Below w.heap.size w wr) (fun _ v _ => K - (intOf v).toNat)
  case atStart => exact ⟨0, g0, 1001, Nat.zero_le _, rfl, rfl, hge3, hO3, hG3, hb3⟩
  case round =>
    clear hO3 hG3 hb3 hge3 hlt3
    obtain ⟨k, g0, cc, hk, rfl, rfl, hge, hO, hG, hb⟩ := hrel
    by_cases hlt : k < K
    · obtain ⟨ad, sI, rfl, had, hcs0, hxs⟩ := hr.at_ hlt
      obtain ⟨s, hxs2, rfl⟩ := natI_some hxs.out
      obtain ⟨ad2, mI, rfl, had2, hcm0, hxm⟩ := hr2.at_ hlt
      obtain ⟨m, hxm2, rfl⟩ := natI_some hxm.out
      have hs30 := hS.siz.rng s (List.mem_of_getElem? hxs2)
      have hm40 := hS.rng m (List.mem_of_getElem? hxm2)
      obtain ⟨o, ho⟩ : ∃ q, waysL ((ss.zip ms).take k) = q := ⟨_, rfl⟩
      have hol : o.length = 1001 := by rw [← ho]; exact waysL_len _
      have HOL := Lib.hid hol
      have hzip : (ss.zip ms)[k]? = some (s, m) := by rw [List.getElem?_zip_eq_some]; exact ⟨hxs2, hxm2⟩
      have hnx : Hid (waysL ((ss.zip ms).take (k + 1)) = wayL o s m) := by
        rw [Hid, List.take_add_one, hzip, Option.toList_some, waysL_snoc, ho]
      have hol2 : Hid (∀ x, o.getD x 0 ≤ 2825761) := fun x => by
        rw [← ho]
        refine waysL_le (n := 4) _ ?_ ?_ x
        · rw [List.length_take]; omega
        · intro p hp
          have := List.of_mem_zip (List.mem_of_mem_take hp)
          exact hS.rng _ this.2
      rw [ho] at hO
      clear ho hzip hxs hxm hxs2 hxm2
      have HC := Lib.hid (cloneI_any hO (by omega))
      have hc3 := hG.at_ 0 hT0
      have hlti : (k : Int) < K := by omega
      have hcs := (hb.cell (p := ad.add k) (by rw [ad_blk]; omega)).trans hcs0
      go_wp2_with (first
        | (go_at_call 77; (with_reducible refine HC.out.mono ?_); rintro e w4 ⟨v4, rfl, hN4, hb4⟩))
      obtain ⟨A4, cc2, rfl, _, _, _, hA4⟩ := ownN_form hN4.1
      obtain ⟨g2, rfl⟩ := hA4 (by omega)
      have hN := hN4.1
      have hge2 := hN4.2 g2 rfl
      rw [hol] at hN ⊢
      have hO4 : OwnN w4 (.slice (some ⟨g0, 0, none⟩) 1001 cc) o := OwnI.callee hO hb4
      have hG4 := hG.callee hb4
      have hb5 := hb.trans (hb4.mono hb.size)
      have hne : g2 ≠ g0 := by have h0 : g0 < wr.heap.size := ownI_lt hO rfl; omega
      have hge5 : w.heap.size ≤ g2 := by have := hb.size; omega
      rw [← midW_start (s := s) (m := m) hol (by omega)] at hN
      clear HC hc3 hcs hO hG hb hb4 hN4 hA4 hge2
      go_loopw [7] (fun v wr => ∃ x : Nat, s ≤ x ∧ x ≤ 1001 ∧ v = .int .i64 x ∧ OwnN wr (.slice (some ⟨g2, 0, none⟩) 1001 cc2) (midW o s m x) ∧ OwnN wr (.slice (some ⟨g0, 0, none⟩) 1001 cc) o ∧ Blk wr g1 152 T ∧ Below w.heap.size w wr) (fun v _ => 1002 - (intOf v).toNat)
      case atStart => exact ⟨s, Nat.le_refl _, by omega, rfl, hN, hO4, hG4, hb5⟩
      case round =>
        clear hN hO4 hG4 hb5
        obtain ⟨x, hsx, hx, rfl, hN, hO, hG, hb⟩ := hrel
        by_cases hxl : x < 1001
        · have hxi : (x : Int) ≤ 1000 := by omega
          have hcm := (hb.cell (p := ad2.add k) (by rw [ad_blk]; omega)).trans hcm0
          obtain ⟨y, hy⟩ : ∃ y, x - s = y := ⟨_, rfl⟩
          have hwy : IntKind.i64.wrap ((x : Int) - s) = (y : Int) := by rw [IntWalk.i64_in _ (by omega)]; omega
          have hyx : y < x := by omega
          have hml := midW_len hol (s := s) (m := m) (x := x) hx
          obtain ⟨va, ha⟩ : ∃ q, o.getD x 0 = q := ⟨_, rfl⟩
          obtain ⟨vb, hbv⟩ : ∃ q, sumW o s m y = q := ⟨_, rfl⟩
          have hcx := (ownN_cell hN hml.symm (i := x) (x := va) (by rw [midW_here, ← ha, List.getD_eq_getElem?_getD, List.getElem?_eq_getElem (by omega)]; rfl)).1
          have hcy := (ownN_cell hN hml.symm (i := y) (x := vb) (by rw [midW_below hyx, hbv])).1
          have hale : va ≤ 2825761 := by rw [← ha]; exact hol2.out x
          have hble : vb ≤ 115856201 := by
            rw [← hbv]
            refine Nat.le_trans (sumW_le hol2.out m y) ?_
            exact Nat.le_trans (Nat.mul_le_mul_right _ (show m + 1 ≤ 41 by omega)) (by decide)
          have hwab : IntKind.i64.wrap ((va : Int) + vb) = ((va + vb : Nat) : Int) := by rw [IntWalk.i64_in _ (by omega)]; omega
          have hsum : Hid (sumW o s m x + farW o s m x = va + vb) := by
            have := sumW_next (o := o) (s := s) (by omega) m x hsx
            rw [hy, ha, hbv] at this
            exact this
          obtain ⟨ab, hab⟩ : ∃ q, va + vb = q := ⟨_, rfl⟩
          rw [hab] at hwab hsum
          have hx0 : (0 : Int) ≤ x := by omega
          have hx1 : (x : Int) < 1001 := by omega
          have hy0 : (0 : Int) ≤ y := by omega
          have hy1 : (y : Int) < 1001 := by omega
          have hfz := (ownN_cell hN hml.symm (i := x) (x := va) (by rw [midW_here, ← ha, List.getD_eq_getElem?_getD, List.getElem?_eq_getElem (by omega)]; rfl)).2
          have hg12 : g1 ≠ g2 := fun e => OwnI.blk_ne hN hG (by decide) (by rw [e]; rfl)
          replace ha := Lib.hid ha
          replace hbv := Lib.hid hbv
          replace hab := Lib.hid hab
          replace hy := Lib.hid hy
          have HML := Lib.hid hml
          clear hol hml hcm
          go_wp2_with (fail)
          refine De.region_tree (fun b w' => bif b then (True) else (w'.cell? ⟨g2, x, none⟩ = some (.int .i64 (va : Int)) ∧ w'.cell? ⟨g2, y, none⟩ = some (.int .i64 (vb : Int)))) 12 1 (by kernel_rfl) (by kernel_rfl) (by decide) ⟨hcx, hcy⟩ ?_
          (try simp only [Act.put, De.l0, De.l1, De.l2])
          refine De.MidT.read (o := ?o1) (v := ?v1) 0 (by decide) ?q1 (by kernel_rfl) (by kernel_rfl) ?w1 (by kernel_rfl) ?y1 ?h1
          case q1 => (simp only [De.g0, De.g1, De.g2]; rfl)
          case w1 => kernel_rfl
          case y1 => (intro w' hw'; obtain ⟨x1, x2⟩ := hw'; go_simp; (try with_reducible rfl))
          (try simp only [Act.put, De.l0, De.l1, De.l2])
          refine De.MidT.read (o := ?o2) (v := ?v2) 1 (by decide) ?q2 (by kernel_rfl) (by kernel_rfl) ?w2 (by kernel_rfl) ?y2 ?h2
          case q2 => (simp only [De.g0, De.g1, De.g2]; rfl)
          case w2 => kernel_rfl
          case y2 => (intro w' hw'; obtain ⟨x1, x2⟩ := hw'; go_simp; (try with_reducible rfl))
          (try simp only [Act.put, De.l0, De.l1, De.l2])
          refine De.MidT.read (o := ?o3) (v := ?v3) 2 (by decide) ?q3 (by kernel_rfl) (by kernel_rfl) ?w3 (by kernel_rfl) ?y3 ?h3
          case q3 => (simp only [De.g0, De.g1, De.g2]; rfl)
          case w3 => kernel_rfl
          case y3 => (intro w' hw'; obtain ⟨x1, x2⟩ := hw'; go_simp; (try with_reducible rfl))
          (try simp only [Act.put, De.l0, De.l1, De.l2])
          refine De.MidT.read (o := ?o4) (v := ?v4) 3 (by decide) ?q4 (by kernel_rfl) (by kernel_rfl) ?w4 (by kernel_rfl) ?y4 ?h4
          case q4 => (simp only [De.g0, De.g1, De.g2]; rfl)
          case w4 => kernel_rfl
          case y4 => (intro w' hw'; obtain ⟨x1, x2⟩ := hw'; go_simp; (try with_reducible rfl))
          (try simp only [Act.put, De.l0, De.l1, De.l2])
          refine De.MidT.read (o := ?o5) (v := ?v5) 4 (by decide) ?q5 (by kernel_rfl) (by kernel_rfl) ?w5 (by kernel_rfl) ?y5 ?h5
          case q5 => (simp only [De.g0, De.g1, De.g2]; rfl)
          case w5 => kernel_rfl
          case y5 => (intro w' hw'; obtain ⟨x1, x2⟩ := hw'; go_simp; (try with_reducible rfl))
          (try simp only [Act.put, De.l0, De.l1, De.l2])
          refine De.MidT.read (o := ?o6) (v := ?v6) 5 (by decide) ?q6 (by kernel_rfl) (by kernel_rfl) ?w6 (by kernel_rfl) ?y6 ?h6
          case q6 => (simp only [De.g0, De.g1, De.g2]; rfl)
          case w6 => kernel_rfl
          case y6 => (intro w' hw'; obtain ⟨x1, x2⟩ := hw'; go_simp; (try with_reducible rfl))
          (try simp only [Act.put, De.l0, De.l1, De.l2])
          refine De.MidT.read (o := ?o7) (v := ?v7) 6 (by decide) ?q7 (by kernel_rfl) (by kernel_rfl) ?w7 (by kernel_rfl) ?y7 ?h7
          case q7 => (simp only [De.g0, De.g1, De.g2]; rfl)
          case w7 => kernel_rfl
          case y7 => (intro w' hw'; obtain ⟨x1, x2⟩ := hw'; go_simp; (try with_reducible rfl))
          (try simp only [Act.put, De.l0, De.l1, De.l2])
          refine De.MidT.read (o := ?o8) (v := ?v8) 7 (by decide) ?q8 (by kernel_rfl) (by kernel_rfl) ?w8 (by kernel_rfl) ?y8 ?h8
          case q8 => (simp only [De.g0, De.g1, De.g2]; rfl)
          case w8 => kernel_rfl
          case y8 => (intro w' hw'; obtain ⟨x1, x2⟩ := hw'; go_simp; (try with_reducible rfl))
          (try simp only [Act.put, De.l0, De.l1, De.l2])
          refine De.MidT.read (o := ?o9) (v := ?v9) 8 (by decide) ?q9 (by kernel_rfl) (by kernel_rfl) ?w9 (by kernel_rfl) ?y9 ?h9
          case q9 => (simp only [De.g0, De.g1, De.g2]; rfl)
          case w9 => kernel_rfl
          case y9 => (intro w' hw'; obtain ⟨x1, x2⟩ := hw'; go_simp; (try with_reducible rfl))
          (try simp only [Act.put, De.l0, De.l1, De.l2])
          refine De.MidT.read (o := ?o10) (v := ?v10) 9 (by decide) ?q10 (by kernel_rfl) (by kernel_rfl) ?w10 (by kernel_rfl) ?y10 ?h10
          case q10 => (simp only [De.g0, De.g1, De.g2]; rfl)
          case w10 => kernel_rfl
          case y10 => (intro w' hw'; obtain ⟨x1, x2⟩ := hw'; go_simp; (try with_reducible rfl))
          (try simp only [Act.put, De.l0, De.l1, De.l2])
          refine De.MidT.read (o := ?o11) (v := ?v11) 10 (by decide) ?q11 (by kernel_rfl) (by kernel_rfl) ?w11 (by kernel_rfl) ?y11 ?h11
          case q11 => (simp only [De.g0, De.g1, De.g2]; rfl)
          case w11 => kernel_rfl
          case y11 => (intro w' hw'; obtain ⟨x1, x2⟩ := hw'; go_simp; (try with_reducible rfl))
          (try simp only [Act.put, De.l0, De.l1, De.l2])
          refine De.MidT.read (o := ?o12) (v := ?v12) 11 (by decide) ?q12 (by kernel_rfl) (by kernel_rfl) ?w12 (by kernel_rfl) ?y12 ?h12
          case q12 => (simp only [De.g0, De.g1, De.g2]; rfl)
          case w12 => kernel_rfl
          case y12 => (intro w' hw'; obtain ⟨x1, x2⟩ := hw'; go_simp; (try with_reducible rfl))
          (try simp only [Act.put, De.l0, De.l1, De.l2])
          (try refine De.MidT.tail ?_)
          refine De.Tr.one (i := 12) (o := ?o13) (by kernel_rfl) ?q13 ?g13 ?h13
          case q13 => (simp only [De.g0, De.g1, De.g2]; rfl)
          case g13 => rfl
          refine wp_setcell 3 _ _ rfl g2 x (.int .i64 (ab : Int)) rfl rfl (by go_simp) ?_
          refine ⟨⟨_, rfl⟩, trivial, ?_⟩
          (try refine De.MidT.tail ?_)
          refine De.Tr.done (by kernel_rfl) ?_
          (try simp only [Act.put, De.l0, De.l1, De.l2])
          obtain ⟨w5, hw5⟩ : ∃ q, q = wr.drew.setCell ⟨g2, x, none⟩ (.int .i64 (ab : Int)) := ⟨_, rfl⟩
          rw [← hw5]
          have hN5 : OwnN w5 (.slice (some ⟨g2, 0, none⟩) 1001 cc2) ((midW o s m x).set x ab) := by
            rw [hw5]
            exact ownN_set (w := wr.drew) hN HML.out.symm x ab
          have hO5 : OwnN w5 (.slice (some ⟨g0, 0, none⟩) 1001 cc) o := by
            rw [hw5]
            exact OwnI.set_ (w := wr.drew) hO (fun e => hne (by simpa [Value.ownBlock] using e.symm)) _
          have hG5 : Blk w5 g1 152 T := by
            rw [hw5]
            exact Blk.far (w := wr.drew) hG hg12 _
          have hb5 : Below w.heap.size w w5 := by
            rw [hw5]
            exact hb.drew.setCell (p := ⟨g2, x, none⟩) hge5 _
          clear hw5 hN hO hG hb hcx hcy hfz
          have hcm := (hb5.cell (p := ad2.add k) (by rw [ad_blk]; omega)).trans hcm0
          have hc1 := hG5.at_ 1 hT1
          have hkK : (k : Int) < K := by omega
          have hm1 : IntKind.i64.wrap ((m : Int) + 1) = (m : Int) + 1 := IntWalk.i64_in _ (by omega)
          obtain ⟨F, hF⟩ : ∃ q, (m + 1) * s = q := ⟨_, rfl⟩
          have hFle : F ≤ 1230 := by
            rw [← hF]
            exact Nat.le_trans (Nat.mul_le_mul (show m + 1 ≤ 41 by omega) hs30.2) (by decide)
          have hFi : ((m : Int) + 1) * s = (F : Int) := by rw [← hF]; push_cast; rfl
          have hwF : IntKind.i64.wrap (((m : Int) + 1) * s) = (F : Int) := by rw [hFi]; exact IntWalk.i64_in _ (by omega)
          obtain ⟨sx, hsv⟩ : ∃ q, sumW o s m x = q := ⟨_, rfl⟩
          have HM := Lib.hid (midW_next (s := s) (m := m) HOL.out hxl)
          have hsum2 := hsum.out
          unfold farW at hsum2
          rw [hF] at hsum2
          rw [hsv] at hsum2 HM
          replace hsv := Lib.hid hsv
          replace hF := Lib.hid hF
          clear hFi hsum
          by_cases hfx : F ≤ x
          · rw [if_pos hfx] at hsum2
            obtain ⟨z, hz⟩ : ∃ q, x - F = q := ⟨_, rfl⟩
            rw [hz] at hsum2
            have hwz : IntKind.i64.wrap ((x : Int) - F) = (z : Int) := by rw [IntWalk.i64_in _ (by omega)]; omega
            have hzx : z < 1001 := by omega
            have hz0 : (0 : Int) ≤ z := by omega
            have hz1 : (z : Int) < 1001 := by omega
            obtain ⟨vz, hvz⟩ : ∃ q, o.getD z 0 = q := ⟨_, rfl⟩
            rw [hvz] at hsum2
            have hwS : IntKind.i64.wrap ((ab : Int) - vz) = (sx : Int) := by rw [IntWalk.i64_in _ (by have := hab.out; omega)]; omega
            have hml5 : ((midW o s m x).set x ab).length = 1001 := by rw [List.length_set]; exact HML.out
            have hat5 : ((midW o s m x).set x ab)[x]? = some ab := by rw [List.getElem?_set, if_pos rfl, if_pos (by rw [HML.out]; exact hxl)]
            have hcx := (ownN_cell hN5 hml5.symm hat5).1
            have hfz := (ownN_cell hN5 hml5.symm hat5).2
            have hcz := (ownN_cell hO5 HOL.out.symm (i := z) (x := vz) (by rw [← hvz, List.getD_eq_getElem?_getD, List.getElem?_eq_getElem (by rw [HOL.out]; exact hzx)]; rfl)).1
            replace hz := Lib.hid hz
            replace hvz := Lib.hid hvz
            replace hml5 := Lib.hid hml5
            replace hsum2 := Lib.hid hsum2
            clear hat5
            go_wp2_with (fail)
            refine De.region_tree (fun b w' => bif b then (True) else (w'.cell? ⟨g2, x, none⟩ = some (.int .i64 (ab : Int)) ∧ w'.cell? ⟨g0, z, none⟩ = some (.int .i64 (vz : Int)))) 10 1 (by kernel_rfl) (by kernel_rfl) (by decide) ⟨hcx, hcz⟩ ?_
            (try simp only [Act.put, De.l0, De.l1, De.l2])
            refine De.MidT.read (o := ?o14) (v := ?v14) 0 (by decide) ?q14 (by kernel_rfl) (by kernel_rfl) ?w14 (by kernel_rfl) ?y14 ?h14
            case q14 => (simp only [De.g0, De.g1, De.g2]; rfl)
            case w14 => kernel_rfl
            case y14 => (intro w' hw'; obtain ⟨x1, x2⟩ := hw'; go_simp; (try with_reducible rfl))
            (try simp only [Act.put, De.l0, De.l1, De.l2])
            refine De.MidT.read (o := ?o15) (v := ?v15) 1 (by decide) ?q15 (by kernel_rfl) (by kernel_rfl) ?w15 (by kernel_rfl) ?y15 ?h15
            case q15 => (simp only [De.g0, De.g1, De.g2]; rfl)
            case w15 => kernel_rfl
            case y15 => (intro w' hw'; obtain ⟨x1, x2⟩ := hw'; go_simp; (try with_reducible rfl))
            (try simp only [Act.put, De.l0, De.l1, De.l2])
            refine De.MidT.read (o := ?o16) (v := ?v16) 2 (by decide) ?q16 (by kernel_rfl) (by kernel_rfl) ?w16 (by kernel_rfl) ?y16 ?h16
            case q16 => (simp only [De.g0, De.g1, De.g2]; rfl)
            case w16 => kernel_rfl
            case y16 => (intro w' hw'; obtain ⟨x1, x2⟩ := hw'; go_simp; (try with_reducible rfl))
            (try simp only [Act.put, De.l0, De.l1, De.l2])
            refine De.MidT.read (o := ?o17) (v := ?v17) 3 (by decide) ?q17 (by kernel_rfl) (by kernel_rfl) ?w17 (by kernel_rfl) ?y17 ?h17
            case q17 => (simp only [De.g0, De.g1, De.g2]; rfl)
            case w17 => kernel_rfl
            case y17 => (intro w' hw'; obtain ⟨x1, x2⟩ := hw'; go_simp; (try with_reducible rfl))
            (try simp only [Act.put, De.l0, De.l1, De.l2])
            refine De.MidT.read (o := ?o18) (v := ?v18) 4 (by decide) ?q18 (by kernel_rfl) (by kernel_rfl) ?w18 (by kernel_rfl) ?y18 ?h18
            case q18 => (simp only [De.g0, De.g1, De.g2]; rfl)
            case w18 => kernel_rfl
            case y18 => (intro w' hw'; obtain ⟨x1, x2⟩ := hw'; go_simp; (try with_reducible rfl))
            (try simp only [Act.put, De.l0, De.l1, De.l2])
            refine De.MidT.read (o := ?o19) (v := ?v19) 5 (by decide) ?q19 (by kernel_rfl) (by kernel_rfl) ?w19 (by kernel_rfl) ?y19 ?h19
            case q19 => (simp only [De.g0, De.g1, De.g2]; rfl)
            case w19 => kernel_rfl
            case y19 => (intro w' hw'; obtain ⟨x1, x2⟩ := hw'; go_simp; (try with_reducible rfl))
            (try simp only [Act.put, De.l0, De.l1, De.l2])
            refine De.MidT.read (o := ?o20) (v := ?v20) 6 (by decide) ?q20 (by kernel_rfl) (by kernel_rfl) ?w20 (by kernel_rfl) ?y20 ?h20
            case q20 => (simp only [De.g0, De.g1, De.g2]; rfl)
            case w20 => kernel_rfl
            case y20 => (intro w' hw'; obtain ⟨x1, x2⟩ := hw'; go_simp; (try with_reducible rfl))
            (try simp only [Act.put, De.l0, De.l1, De.l2])
            refine De.MidT.read (o := ?o21) (v := ?v21) 7 (by decide) ?q21 (by kernel_rfl) (by kernel_rfl) ?w21 (by kernel_rfl) ?y21 ?h21
            case q21 => (simp only [De.g0, De.g1, De.g2]; rfl)
            case w21 => kernel_rfl
            case y21 => (intro w' hw'; obtain ⟨x1, x2⟩ := hw'; go_simp; (try with_reducible rfl))
            (try simp only [Act.put, De.l0, De.l1, De.l2])
            refine De.MidT.read (o := ?o22) (v := ?v22) 8 (by decide) ?q22 (by kernel_rfl) (by kernel_rfl) ?w22 (by kernel_rfl) ?y22 ?h22
            case q22 => (simp only [De.g0, De.g1, De.g2]; rfl)
            case w22 => kernel_rfl
            case y22 => (intro w' hw'; obtain ⟨x1, x2⟩ := hw'; go_simp; (try with_reducible rfl))
            (try simp only [Act.put, De.l0, De.l1, De.l2])
            refine De.MidT.read (o := ?o23) (v := ?v23) 9 (by decide) ?q23 (by kernel_rfl) (by kernel_rfl) ?w23 (by kernel_rfl) ?y23 ?h23
            case q23 => (simp only [De.g0, De.g1, De.g2]; rfl)
            case w23 => kernel_rfl
            case y23 => (intro w' hw'; obtain ⟨x1, x2⟩ := hw'; go_simp; (try with_reducible rfl))
            (try simp only [Act.put, De.l0, De.l1, De.l2])
            (try refine De.MidT.tail ?_)
            refine De.Tr.one (i := 10) (o := ?o24) (by kernel_rfl) ?q24 ?g24 ?h24
            case q24 => (simp only [De.g0, De.g1, De.g2]; rfl)
            case g24 => rfl
            refine wp_setcell 3 _ _ rfl g2 x (.int .i64 (sx : Int)) rfl rfl (by go_simp) ?_
            refine ⟨⟨_, rfl⟩, trivial, ?_⟩
            (try refine De.MidT.tail ?_)
            refine De.Tr.done (by kernel_rfl) ?_
            (try simp only [Act.put, De.l0, De.l1, De.l2])
            obtain ⟨w6, hw6⟩ : ∃ q, q = w5.drew.setCell ⟨g2, x, none⟩ (.int .i64 (sx : Int)) := ⟨_, rfl⟩
            rw [← hw6]
            have hN6 : OwnN w6 (.slice (some ⟨g2, 0, none⟩) 1001 cc2) (midW o s m (x + 1)) := by
              rw [hw6]
              have h := ownN_set (w := w5.drew) hN5 hml5.out.symm x sx
              rw [List.set_set, HM.out] at h
              exact h
            have hO6 : OwnN w6 (.slice (some ⟨g0, 0, none⟩) 1001 cc) o := by
              rw [hw6]
              exact OwnI.set_ (w := w5.drew) hO5 (fun e => hne (by simpa [Value.ownBlock] using e.symm)) _
            have hG6 : Blk w6 g1 152 T := by
              rw [hw6]
              exact Blk.far (w := w5.drew) hG5 hg12 _
            have hb6 : Below w.heap.size w w6 := by
              rw [hw6]
              exact hb5.drew.setCell (p := ⟨g2, x, none⟩) hge5 _
            clear hw6 hN5 hO5 hG5 hb5 hcx hcz hfz
            go_wp2_with (fail)
            go_roundw
            case rel => exact ⟨x + 1, by omega, by omega, by go_num, hN6, hO6, hG6, hb6⟩
            case measure => simp only [intOf]; omega
          · rw [if_neg hfx] at hsum2
            have hwz : IntKind.i64.wrap ((x : Int) - F) = (x : Int) - F := IntWalk.i64_in _ (by omega)
            have hn1 : ¬ (0 : Int) ≤ (x : Int) - F := by omega
            have hn2 : ¬ (F : Int) ≤ (x : Int) := by omega
            have hN6 : OwnN w5 (.slice (some ⟨g2, 0, none⟩) 1001 cc2) (midW o s m (x + 1)) := by
              rw [← HM.out, show sx = ab by omega]
              exact hN5
            clear hN5
            replace hsum2 := Lib.hid hsum2
            go_wp2_with (fail)
            go_roundw
            case rel => exact ⟨x + 1, by omega, by omega, by go_num, hN6, hO5, hG5, hb5⟩
            case measure => simp only [intOf]; omega
        · obtain rfl : x = 1001 := by omega
          rw [midW_end hol] at hN
          go_wp2_with (fail)
          go_roundw
          case rel => exact ⟨k + 1, g2, cc2, by omega, by go_num, rfl, hge5, by rw [hnx.out]; exact hN, hG, hb⟩
          case measure => simp only [intOf]; omega
    · obtain rfl : k = K := by omega
      have hlti : ¬ (k : Int) < k := by omega
      have hc3 := hG.at_ 0 hT0
      go_wp2_with (fail)
      go_ret
      refine ⟨_, rfl, ⟨?_, ?_⟩, hb⟩
      · rw [← hZ.out]
        rw [List.take_of_length_le] at hO
        · exact hO
        · rw [List.length_zip, hHSlen, Nat.min_self]
          omega
      · intro g hg
        have hg : g0 = g := by simpa [blkOf] using hg
        omega
end
end Dr
end Go.Proofs.YtbgakdpbglpfaaaGreatDoor
