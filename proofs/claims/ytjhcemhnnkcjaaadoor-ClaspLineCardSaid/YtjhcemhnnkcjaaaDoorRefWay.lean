/- The reference's Way and Leads. -/
import Derived.Test.YtjhcemhnnkcjaaaDoorRefApi1
import Derived.Test.YtjhcemhnnkcjaaaDoorWay
import Derived.Test.YtjhcemhnnkcjaaaDoorLeads
namespace Go.Proofs.YtjhcemhnnkcjaaaDoor
open Go.RowKit
/-- a list that the call makes lies elsewhere than a list that it reads -/
def Apart (A : Option Addr) (v : Value) : Prop := ∀ ad : Addr, A = some ad → v.ownBlock ≠ some ad.block
set_option maxRecDepth 100000 in
set_option maxHeartbeats 1000000 in
theorem refWay_ok (A B : Option Addr) (n c d : Nat) (xs ys : List Int) (w : World) (ha : RInts w w.heap.size A n xs) (hb : RInts w w.heap.size B n ys) (hn : n ≤ maxLen) (he : bothE xs ys = 0) (hd : distS (numS xs) (numS ys) ≤ 1000) :
    Calls Tryd.prog 28 #[.slice A n c, .slice B n d] w (RetL (wayN (numS xs) (numS ys)) 0 w) := by
  obtain ⟨-, hx, hy, k1, k2, hn16, hn0⟩ := both_pre ha hb he
  have hX := Lib.hid hx
  have hY := Lib.hid hy
  have hE := Lib.hid he
  have hL := Lib.hid ha.len
  have hl2 := numS_lt ys
  rw [hb.len] at hl2
  have hl2 := Lib.hid hl2
  obtain ⟨D, hD⟩ : ∃ D, D = distS (numS xs) (numS ys) := ⟨_, rfl⟩
  rw [← hD] at hd
  have hDD := Lib.hid hD
  have hlen : Hid ((wayN (numS xs) (numS ys)).length = D) := Lib.hid (by rw [wayN_length, hD])
  have hp0 := Lib.hid (posS_zero (numS xs) (numS ys))
  have hps := fun j (h : j < D) => Lib.hid (posS_succ (a := numS xs) (b := numS ys) (j := j) (by rw [← hD]; exact h))
  have hpd := fun j (h : j ≤ D) => Lib.hid (posS_dist (a := numS xs) (b := numS ys) (j := j) (by rw [← hD]; exact h))
  have htk := fun j (h : j < D) => Lib.hid (wayN_take (a := numS xs) (b := numS ys) (j := j) (by rw [← hD]; exact h))
  obtain ⟨wy, hwy⟩ : ∃ wy, wy = wayN (numS xs) (numS ys) := ⟨_, rfl⟩
  rw [← hwy] at hlen htk ⊢
  obtain ⟨po, hpo⟩ : ∃ po, po = posS (numS xs) (numS ys) := ⟨_, rfl⟩
  rw [← hpo] at hp0 hps hpd htk
  clear hx hy he hD hwy hpo
  have hdd : ¬ (1000 : Int) < (D : Nat) := by omega
  go_enter Tryd.func28, Tryd.ntmps28
  go_wp2_with (first
    | (go_at_call 58
       refine (refBoth_any A B n n c d xs ys w _ ha hb hn hn).mono ?_
       rintro e w1 ⟨rfl, q1, rfl⟩
       rw [hE.out])
    | (go_at_call 55
       refine (refDistance_any A B n n c d xs ys _ _ (ha.drewN q1) (hb.drewN q1) hn16 hn16 hX.out hY.out).mono ?_
       rintro e w2 ⟨rfl, rfl⟩
       rw [← hDD.out]))
  go_loopg [0, 7] D (fun q u v wr => ∃ (j : Nat) (cur : List Int) (A1 : Option Addr) (c1 : Nat), Hid (q = D - j) ∧ u = .slice A1 n c1 ∧ RInts wr wr.heap.size A1 n cur ∧ Hid (bin cur) ∧ Hid (numS cur = po j) ∧ j ≤ D ∧
      OwnI wr w.heap.size v (wy.take j) ∧ Hid (Apart A1 v) ∧ Below w.heap.size w wr)
  case atStart => exact ⟨0, xs, A, c, Lib.hid rfl, rfl, ha.drewN q1, hX, Lib.hid hp0.out.symm, by omega, OwnI.nil _ _, Lib.hid (fun _ _ h => by simp [Value.ownBlock] at h), below_drewN (Below.refl _ _) q1⟩
  case round =>
    obtain ⟨j, cur, A1, c1, hq, rfl, har, hbc, hnc, hj, hown, hap, hbe⟩ := hrel
    have hbr := (hb.below hbe).more hbe.size
    have hdj := (hpd j hj).out
    rw [← hnc.out] at hdj
    by_cases hlt : j < D
    · have hpos : (0 : Int) < (D - j : Nat) := by omega
      have hne : numS cur ≠ numS ys := by intro h; rw [← hDD.out, h] at hdj; unfold distS at hdj; omega
      obtain ⟨s1, s2, s3, -⟩ := next_stop hbc.out hne (by rw [har.len]; exact hl2.out)
      have ht := (htk j hlt).out
      rw [← hnc.out] at ht
      have hst : numS (moveS cur (nextS (numS cur) (numS ys))) = po (j + 1) := by rw [s3, (hps j hlt).out, hnc.out]
      rw [har.len] at s1
      obtain ⟨K, hK⟩ : ∃ K, K = nextS (numS cur) (numS ys) := ⟨_, rfl⟩
      rw [← hK] at s1 hst ht
      have hST := Lib.hid hst
      have hHT := Lib.hid ht
      have hNE := Lib.hid hne
      have hKK := Lib.hid hK
      have hdj := Lib.hid (by rw [← hDD.out] at hdj; exact hdj : distS (numS cur) (numS ys) = D - j)
      have hl1 : (wy.take j).length = j := by rw [List.length_take, hlen.out]; omega
      clear s2 s3 hst ht hne hK hpd hps htk
      go_wp2_with (first
        | (go_at_call 55
           refine (refDistance_any A1 B n n c1 d cur ys wr _ har hbr hn16 hn16 hbc.out hY.out).mono ?_
           rintro e w1 ⟨rfl, rfl⟩
           rw [hdj.out])
        | (go_at_call 60
           refine (refNext_any A1 B n c1 d cur ys _ har hbr hn16 hbc.out hY.out hNE.out).mono ?_
           rintro e w2 ⟨rfl, hb2⟩
           rw [← hKK.out]
           have hown2 := hown.callee hb2
           have hbe2 := hbe.trans (hb2.mono hbe.size)
           have har2 := (har.below hb2).more hb2.size)
        | (at_builtin
           refine wpList_push rfl _ _ rfl rfl (hown2.none_ (World.grownBy_alloc w2 _ none)) w2.heap.size 1 K rfl (Blk.new _ _ _) (by omega) (by simp; have := hbe2.size; omega) ?_
           intro g5 cap5 w5 hown5 hg5 hat5 hlt5
           have hbe5 := (hbe2.alloc hbe2.size _).grown hg5 (by simp; have := hbe2.size; omega) (fun i hi => hown2.ge hi)
           have har5 := RInts.grownNe (Reads.alloc har2 (Nat.le_refl _) _) hg5 (by simp) hap.out
           have hsz5 : w2.heap.size ≤ w5.heap.size := by have := hg5.size; simp at this; omega)
        | (go_at_call 61
           refine (refMoved_new A1 n c1 K cur w5 (har5.more hsz5) hn16 s1 hbc.out).mono ?_
           rintro e w6 ⟨A6, c6, rfl, hr6, hb6, hfr6⟩))
      go_roundg (D - (j + 1))
      case rel => exact ⟨j + 1, moveS cur K, A6, c6, Lib.hid rfl, rfl, hr6, Lib.hid (moveS_bin hbc.out K), hST, by omega, by have h7 := hown5.callee hb6; rw [hl1] at h7; rw [hHT.out]; exact h7, Lib.hid (fun ad e h' => by have := hfr6.out ad e; simp only [Value.ownBlock, Option.some.injEq] at h'; omega), hbe5.trans (hb6.mono hbe5.size)⟩
      case measure => rw [hq.out]; omega
    · obtain rfl : j = D := by omega
      have hz : Hid (distS (numS cur) (numS ys) = 0) := Lib.hid (by rw [hdj, ← hDD.out]; omega)
      go_wp2_with (first
        | (go_at_call 55
           refine (refDistance_any A1 B n n c1 d cur ys wr _ har hbr hn16 hn16 hbc.out hY.out).mono ?_
           rintro e w1 ⟨rfl, rfl⟩
           rw [hz.out]))
      go_ret2
      have hjj : wy.take j = wy := List.take_of_length_le (by rw [hlen.out]; exact Nat.le_refl _)
      rw [hjj] at hown
      exact RetL_own hown (by rw [hlen.out]; omega) hbe
set_option maxHeartbeats 1000000 in
theorem refWay_any (A B : Option Addr) (n m c d : Nat) (xs ys : List Int) (w : World) (ha : RInts w w.heap.size A n xs) (hb : RInts w w.heap.size B m ys) (hn : n ≤ maxLen) (hm : m ≤ maxLen) :
    Calls Tryd.prog 28 #[.slice A n c, .slice B m d] w (RetL (wayL xs ys) (wayE xs ys) w) := by
  by_cases he : bothE xs ys = 0
  · obtain ⟨rfl, hx, hy, k1, k2, hn16, _⟩ := both_pre ha hb he
    by_cases hd : distS (numS xs) (numS ys) ≤ 1000
    · have h0 : wayE xs ys = 0 := by rw [wayE, if_neg (by simp [he]), if_neg (by omega)]
      rw [h0, wayL, if_pos h0]
      exact refWay_ok A B n c d xs ys w ha hb hn he hd
    · have h0 : wayE xs ys = 3 := by rw [wayE, if_neg (by simp [he]), if_pos (by omega)]
      rw [h0, wayL, if_neg (by rw [h0]; decide)]
      have hX := Lib.hid hx
      have hY := Lib.hid hy
      have hE := Lib.hid he
      have hd' : (1000 : Int) < (distS (numS xs) (numS ys) : Nat) := by omega
      clear hx hy h0 he
      go_enter Tryd.func28, Tryd.ntmps28
      go_wp2_with (first
        | (go_at_call 58
           refine (refBoth_any A B n n c d xs ys w _ ha hb hn hn).mono ?_
           rintro e w1 ⟨rfl, q1, rfl⟩
           rw [hE.out])
        | (go_at_call 55
           refine (refDistance_any A B n n c d xs ys _ _ (ha.drewN q1) (hb.drewN q1) hn16 hn16 hX.out hY.out).mono ?_
           rintro e w2 ⟨rfl, rfl⟩))
      go_ret2
      exact RetL_nil (below_drewN (Below.refl _ _) q1)
  · have hb0 : (bothE xs ys != 0) = true := by simpa using he
    have hb1 : (bothE xs ys == 0) = false := by simpa using he
    rw [wayL, wayE_bad he, if_neg he]
    clear he
    go_enter Tryd.func28, Tryd.ntmps28
    go_wp2_with (first
      | (go_at_call 58
         refine (refBoth_any A B n m c d xs ys w _ ha hb hn hm).mono ?_
         rintro e w1 ⟨rfl, q1, rfl⟩))
    go_ret2
    exact RetL_nil (below_drewN (Below.refl _ _) q1)
set_option maxRecDepth 100000 in
set_option maxHeartbeats 1000000 in
theorem refLeads_ok (A B C : Option Addr) (n m c d f : Nat) (xs ys way : List Int) (w : World) (ha : RInts w w.heap.size A n xs) (hb : RInts w w.heap.size B n ys) (hc : RInts w w.heap.size C m way) (hn : n ≤ maxLen) (hm : m ≤ maxLen) (he : bothE xs ys = 0) :
    Calls Tryd.prog 30 #[.slice A n c, .slice B n d, .slice C m f] w (RetE (leadsE xs ys way) w) := by
  obtain ⟨-, hx, hy, k1, k2, hn16, hn0⟩ := both_pre ha hb he
  have hX := Lib.hid hx
  have hY := Lib.hid hy
  have hE := Lib.hid he
  have hWL := Lib.hid hc.len
  clear hx hy he k1 k2
  unfold maxLen at hm
  go_enter Tryd.func30, Tryd.ntmps30
  go_wp2_with (first
    | (go_at_call 58
       refine (refBoth_any A B n n c d xs ys w _ ha hb hn hn).mono ?_
       rintro e w1 ⟨rfl, q1, rfl⟩
       rw [hE.out]))
  go_loopw [0, 7, 8] (fun u ev i wr => ∃ (k : Nat) (er : Int) (A1 : Option Addr) (c1 : Nat) (cur : List Int), k ≤ m ∧ i = .int .i64 k ∧ ev = .int .i64 er ∧ u = .slice A1 n c1 ∧ RInts wr wr.heap.size A1 n cur ∧ Below w.heap.size w wr ∧ Hid (bin cur) ∧
      Hid ((er = 0 ∧ leadF xs way = leadF cur (way.drop k)) ∨ (er ≠ 0 ∧ leadsE xs ys way = er))) (fun _ _ i _ => m - (intOf i).toNat)
  case atStart => exact ⟨0, 0, A, c, xs, by omega, rfl, rfl, rfl, ha.drewN q1, below_drewN (Below.refl _ _) q1, hX, Lib.hid (Or.inl ⟨rfl, by rw [List.drop_zero]⟩)⟩
  case round =>
    obtain ⟨k, er, A1, c1, cur, hk, rfl, rfl, rfl, har, hbe, hbc, hor⟩ := hrel
    have hbr := (hb.below hbe).more hbe.size
    have hcr := (hc.below hbe).more hbe.size
    rcases hor.out with ⟨rfl, hF⟩ | ⟨h0, hLE⟩
    · have hFF := Lib.hid hF
      clear hF hor
      by_cases hlt : k < m
      · obtain ⟨ad, r, rfl, _, h1, hr⟩ := hcr.at_ hlt
        by_cases hs : stepE cur r = 0
        · obtain ⟨r0, r1, -⟩ := stepE_zero hs
          obtain ⟨K, rfl⟩ : ∃ K : Nat, r = K := ⟨r.toNat, by omega⟩
          have hKn : K < n := by rw [har.len] at r1; omega
          have hN : Hid (leadF xs way = leadF (moveS cur K) (way.drop (k + 1))) := Lib.hid (by rw [hFF.out, leadF_ok hr.out hs, Int.toNat_natCast])
          have hS := Lib.hid hs
          clear hs r0 r1
          go_wp2_with (first
            | (go_at_call 63
               refine (refStep_any A1 n c1 K cur _ _ har hn16).mono ?_
               rintro e w2 ⟨rfl, rfl⟩
               rw [hS.out])
            | (go_at_call 61
               refine (refMoved_any A1 n c1 K cur _ har hn16 hKn hbc.out).mono ?_
               rintro e w6 ⟨A6, c6, rfl, hr6, hb6⟩))
          go_roundw
          case rel => exact ⟨k + 1, 0, A6, c6, moveS cur K, by omega, by go_num, rfl, rfl, hr6, hbe.trans (hb6.mono hbe.size), Lib.hid (moveS_bin hbc.out K), Lib.hid (Or.inl ⟨rfl, hN.out⟩)⟩
          case measure => simp [intOf]; omega
        · have hN := Lib.hid (leadsE_step hE.out hFF.out hr.out hs)
          have hs0 : (stepE cur r == 0) = false := by simpa using hs
          have hS := Lib.hid hs
          clear hs
          go_wp2_with (first
            | (go_at_call 63
               refine (refStep_any A1 n c1 r cur _ _ har hn16).mono ?_
               rintro e w2 ⟨rfl, rfl⟩))
          go_roundw
          case rel => exact ⟨k + 1, stepE cur r, A1, c1, cur, by omega, by go_num, rfl, rfl, har, hbe, hbc, Lib.hid (Or.inr ⟨hS.out, hN.out⟩)⟩
          case measure => simp [intOf]; omega
      · obtain rfl : k = m := by omega
        have hN := Lib.hid (leadsE_end (cur := cur) hE.out (by rw [hFF.out, hWL.out]))
        by_cases hq : numS cur = numS ys
        · have hN : Hid (leadsE xs ys way = 0) := Lib.hid (by rw [hN.out, if_pos hq])
          have hz : Hid (distS (numS cur) (numS ys) = 0) := Lib.hid (by unfold distS; omega)
          clear hq
          go_wp2_with (first
            | (go_at_call 55
               refine (refDistance_any A1 B n n c1 d cur ys wr _ har hbr hn16 hn16 hbc.out hY.out).mono ?_
               rintro e w1 ⟨rfl, rfl⟩
               rw [hz.out]))
          go_ret
          exact ⟨by rw [hN.out]; rfl, hbe⟩
        · have hN : Hid (leadsE xs ys way = 14) := Lib.hid (by rw [hN.out, if_neg hq])
          have hz : (0 : Int) < (distS (numS cur) (numS ys) : Nat) := by unfold distS; omega
          clear hq
          go_wp2_with (first
            | (go_at_call 55
               refine (refDistance_any A1 B n n c1 d cur ys wr _ har hbr hn16 hn16 hbc.out hY.out).mono ?_
               rintro e w1 ⟨rfl, rfl⟩))
          go_ret
          exact ⟨by rw [hN.out]; rfl, hbe⟩
    · have he0 : (er == 0) = false := by simpa using h0
      have hLL := Lib.hid hLE
      clear hLE h0 hor
      by_cases hlt : k < m
      · go_wp2_with (fail)
        go_ret
        exact ⟨by rw [hLL.out]; rfl, hbe⟩
      · go_wp2_with (fail)
        go_ret
        exact ⟨by rw [hLL.out]; rfl, hbe⟩
set_option maxHeartbeats 1000000 in
theorem refLeads_any (A B C : Option Addr) (n p m c d f : Nat) (xs ys way : List Int) (w : World) (ha : RInts w w.heap.size A n xs) (hb : RInts w w.heap.size B p ys) (hc : RInts w w.heap.size C m way) (hn : n ≤ maxLen) (hp : p ≤ maxLen) (hm : m ≤ maxLen) :
    Calls Tryd.prog 30 #[.slice A n c, .slice B p d, .slice C m f] w (RetE (leadsE xs ys way) w) := by
  by_cases he : bothE xs ys = 0
  · obtain ⟨rfl, _⟩ := both_pre ha hb he
    exact refLeads_ok A B C n m c d f xs ys way w ha hb hc hn hm he
  · rw [leadsE_bad he]
    have hb1 : (bothE xs ys == 0) = false := by simpa using he
    clear he
    unfold maxLen at hm
    go_enter Tryd.func30, Tryd.ntmps30
    go_wp2_with (first
      | (go_at_call 58
         refine (refBoth_any A B n p c d xs ys w _ ha hb hn hp).mono ?_
         rintro e w1 ⟨rfl, q1, rfl⟩))
    go_loopw [0, 7, 8] (fun u ev i wr => i = .int .i64 0 ∧ ev = .int .i64 (bothE xs ys) ∧ wr = w.drewN q1) (fun _ _ _ _ => 0)
    case atStart => exact ⟨rfl, rfl, rfl⟩
    case round =>
      obtain ⟨rfl, rfl, rfl⟩ := hrel
      by_cases hlt : 0 < m
      · go_wp2_with (fail)
        go_ret
        exact ⟨rfl, below_drewN (Below.refl _ _) q1⟩
      · go_wp2_with (fail)
        go_ret
        exact ⟨rfl, below_drewN (Below.refl _ _) q1⟩
end Go.Proofs.YtjhcemhnnkcjaaaDoor
