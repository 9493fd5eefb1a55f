/- The reference's Served. -/
import Derived.Test.YtfcfhiekkpflcaaDoorRowI
import Derived.Test.YtfcfhiekkpflcaaDoorRefF
namespace Go.Proofs.YtfcfhiekkpflcaaDoor
open Go.RowKit
def Apart (og : Option Nat) (v : Value) : Prop := ∀ g, og = some g → v.ownBlock ≠ some g
theorem OwnI.fr {w w' : World} {base : Nat} {v : Value} {xs : List Int} {og : Option Nat} (h : OwnI w base v xs) (hf : Fr (fun i => og = some i) w w') (ha : Apart og v) : OwnI w' base v xs :=
  h.keep fun g hg => hf.block g (h.lt hg) (fun e => ha g e hg)
theorem Apart.new {w : World} {base g' : Nat} {v : Value} {xs : List Int} {og : Option Nat} (h : Apart og v) (ho : OwnI w base v xs) (hg : og = some g' ∨ w.heap.size ≤ g') : Apart (some g') v := by
  intro g e hv
  obtain rfl : g' = g := by simpa using e
  rcases hg with hg | hg
  · exact h _ hg hv
  · have := ho.lt hv
    omega
theorem Apart.push {w : World} {base g : Nat} {v u : Value} {l : List Int} {og : Option Nat} {n c : Nat} (h : Apart og v) (hr : RowI w base u og l) (hg : v.ownBlock = some g ∨ g = w.heap.size) : Apart og (.slice (some ⟨g, 0, none⟩) n c) := by
  intro k e hv
  obtain rfl : g = k := by simpa [Value.ownBlock] using hv
  rcases hg with hg | hg
  · exact h _ e hg
  · have := hr.lt e
    omega
theorem RowI.tail {w : World} {base g off n cap : Nat} {x : Int} {l : List Int} (h : RowI w base (.slice (some ⟨g, off, none⟩) n cap) (some g) (x :: l)) :
    w.cell? ⟨g, off, none⟩ = some (.int .i64 x) ∧ RowI w base (.slice (if cap = 1 then some ⟨g, off, none⟩ else some ⟨g, off + 1, none⟩) l.length (cap - 1)) (some g) l := by
  obtain ⟨_, _, _, e1, e2, _, hcell, hc1, hc2⟩ := h.cut
  injection e1 with e1
  subst e1
  injection e2 with e2 _ e3
  injection e2 with e2
  injection e2 with _ e2 _
  subst e2 e3
  refine ⟨hcell, ?_⟩
  split
  · exact hc1 (by assumption)
  · exact hc2
theorem wait_none {l : Word} {b pos p t : Nat} {Q : List Int} (h : Wait l b pos p Q t) (ht : 0 < t) : Q = [] := by
  obtain ⟨pn, pc, one, q, te⟩ := h
  rw [q, List.drop_eq_nil_iff]
  omega
set_option maxRecDepth 100000 in
set_option maxHeartbeats 4000000 in
theorem rServed_any (s : ByteArray) (b : Int) (w : World) : Calls Tryd.prog 38 #[.string s, .int .i64 b] w (RetIE (serL (bts s) b) (serE (bts s) b) w) := by
  obtain ⟨k, hk⟩ : ∃ k, opT (bts s) b = k := ⟨_, rfl⟩
  have hkH := Lib.hid hk
  by_cases h0 : k = 0
  · subst h0
    obtain ⟨h1, h2, h3⟩ := opT_zero hk
    obtain ⟨h4, h5⟩ := chkT_zero h1
    rw [bts_len] at h4
    have hokH := Lib.hid h5
    obtain ⟨b, rfl⟩ : ∃ b' : Nat, b = b' := ⟨b.toNat, by omega⟩
    obtain ⟨C, hC⟩ : ∃ C, serC (bts s) b = C := ⟨_, rfl⟩
    obtain ⟨N, hN⟩ : ∃ N, nP (bts s) 0 = N := ⟨_, rfl⟩
    have hSE := Lib.hid (show serL (bts s) (b : Int) = (if N.length ≤ C.length then srvT N C (bts s) 0 0 else []) ∧ serE (bts s) (b : Int) = if N.length ≤ C.length then 0 else 12 by
      unfold serL serE
      rw [hk, Int.toNat_natCast, hC, hN]
      exact ⟨by simp, by simp⟩)
    obtain ⟨R, hR⟩ : ∃ R, srvT N C (bts s) 0 0 = R := ⟨_, rfl⟩
    rw [hR] at hSE
    have hstep := Lib.hid (fun (pos p : Nat) (Q : List Int) (t : Nat) (y : UInt8) (hw : Wait (bts s) b pos p Q t) (hy : (bts s)[pos]? = some y) => srv_step hw hy)
    rw [hC, hN] at hstep
    have hlast := Lib.hid (fun p Q t (hw : Wait (bts s) b (bts s).length p Q t) => hw.last)
    rw [hC, hN, bts_len] at hlast
    have hW0 := Lib.hid (Wait.start (bts s) b)
    have hR0 := Lib.hid (show N.length ≤ C.length → [] ++ srvT N C ((bts s).drop 0) 0 0 = R from fun _ => hR)
    rw [hSE.out.1, hSE.out.2]
    obtain ⟨q, hq⟩ : ∃ q, decide (N.length ≤ C.length) = q := ⟨_, rfl⟩
    obtain ⟨RL, hRL⟩ : ∃ RL, (if N.length ≤ C.length then R else []) = RL := ⟨_, rfl⟩
    obtain ⟨RE, hRE⟩ : ∃ RE : Int, (if N.length ≤ C.length then 0 else 12) = RE := ⟨_, rfl⟩
    rw [hRL, hRE]
    replace hRL := Lib.hid hRL
    replace hRE := Lib.hid hRE
    clear hSE hk h1 h5 hC hN hR hq
    go_enter Tryd.func38, Tryd.ntmps38
    go_wp2_with (first
      | (go_at_call 52; (with_reducible refine (begun_any _ _ _).mono ?_); rintro e wz ⟨rfl, hwz⟩; replace hwz := hwz.symm; subst hwz; rw [hkH.out]))
    go_loopw [7, 8, 9, 10] (fun o7 o8 v9 v10 wr => ∃ (i p t : Nat) (O Q : List Int) (og : Option Nat), i ≤ s.size ∧ v10 = .int .i64 i ∧ v9 = .int .i64 t ∧ t ≤ b + i ∧ O.length ≤ 2 * i ∧ Q.length ≤ i ∧ Hid (Wait (bts s) b i p Q t) ∧ Hid (N.length ≤ C.length → O ++ srvT N C ((bts s).drop i) i p = R) ∧ OwnI wr w.heap.size o7 O ∧ RowI wr w.heap.size o8 og Q ∧ Apart og o7 ∧ Below w.heap.size w wr) (fun _ _ _ v _ => s.size - (intOf v).toNat)
    case atStart => exact ⟨0, 0, b, [], [], none, by omega, rfl, rfl, by omega, by simp, by simp, hW0, hR0, OwnI.nil _ _, RowI.nil _ _, (fun g e => by cases e), Below.refl _ _⟩
    case round =>
      obtain ⟨i, p, t, O, Q, og, hi, rfl, rfl, htb, hOl, hQl, hW, hL, hoO, hoQ, hap, hbe⟩ := hrel
      obtain ⟨wa, rfl⟩ : ∃ x, x = wr := ⟨wr, rfl⟩
      by_cases hlt : i < s.size
      · have hlti : (i : Int) < s.size := by omega
        have hat := bts_at s i hlt
        have hst := hstep.out i p Q t s[i] hW.out hat
        have hszn := hbe.size
        rcases okT_at hokH.out (List.mem_of_getElem? hat) with hy | hy
        · have hg : ((s[i].toNat : Int) == 99) = true := by rw [hy]; rfl
          rw [hy] at hst
          obtain ⟨hst1, hst2⟩ := hst Q (t + 1) rfl rfl
          clear hst hy hat
          cases Q with
          | nil =>
            obtain ⟨hW1, hs1⟩ := hst1 (Or.inl rfl)
            have hW1 := Lib.hid hW1
            have hL1 := Lib.hid (show N.length ≤ C.length → (O ++ [(i : Int)]) ++ srvT N C ((bts s).drop (i + 1)) (i + 1) p = R from fun h => by rw [← hL.out h, hs1 h, if_pos rfl, List.append_assoc])
            obtain ⟨A, c, rfl⟩ := hoQ.len
            clear hst1 hst2 hs1
            go_wp2_with (first
              | (at_builtin
                 refine wpList_push rfl _ _ rfl rfl (hoO.none_ (World.grownBy_alloc wa _ none)) wa.heap.size 1 (i : Int) rfl (Blk.new wa _ _) (by omega) (by show _ ≤ (wa.heap.push _).size; simp; omega) ?_
                 intro g6 cap6 w6 ho6 hgr6 hat6 _
                 have hb6 := (hbe.alloc hbe.size (.cells #[.int .i64 (i : Int)] 3)).grown hgr6 (by show _ ≤ (wa.heap.push _).size; simp; omega) (fun g hg => hoO.ge hg)
                 have hQa := hoQ.none_ (World.grownBy_alloc wa (.cells #[.int .i64 (i : Int)] 3) none)
                 have hQ6 := hQa.same (w' := w6) fun g hg => hgr6.block g (hQa.lt hg) (fun e => hap g hg e.symm)
                 have hap6 := hap.push (n := O.length + 1) (c := cap6) hQa hat6))
            go_roundw
            case rel => exact ⟨i + 1, p, t + 1, O ++ [(i : Int)], [], og, by omega, by go_num, by go_num, by omega, by simp; omega, by simp, hW1, hL1, by simpa [OwnI] using ho6, hQ6, hap6, hb6⟩
            case measure => simp only [intOf]; omega
          | cons x Q2 =>
            obtain ⟨hW1, hs1⟩ := hst2 x Q2 rfl (by omega)
            rw [Nat.add_sub_cancel] at hW1
            have hW1 := Lib.hid hW1
            have hL1 := Lib.hid (show N.length ≤ C.length → ((O ++ [(i : Int)]) ++ [x]) ++ srvT N C ((bts s).drop (i + 1)) (i + 1) (p + 1) = R from fun h => by rw [← hL.out h, hs1 h, if_pos rfl]; simp)
            obtain ⟨g, off, cap, rfl, rfl, hcap, _, _, _⟩ := hoQ.cut
            have hcapi : (1 : Int) ≤ cap := by omega
            rw [List.length_cons] at hQl
            clear hst1 hst2 hs1
            go_wp2_with (first
              | (at_builtin
                 refine wpList_push rfl _ _ rfl rfl (hoO.none_ (World.grownBy_alloc wa _ none)) wa.heap.size 1 (i : Int) rfl (Blk.new wa _ _) (by omega) (by show _ ≤ (wa.heap.push _).size; simp; omega) ?_
                 intro g6 cap6 w6 ho6 hgr6 hat6 _
                 have hb6 := (hbe.alloc hbe.size (.cells #[.int .i64 (i : Int)] 3)).grown hgr6 (by show _ ≤ (wa.heap.push _).size; simp; omega) (fun g hg => hoO.ge hg)
                 have hQa := hoQ.none_ (World.grownBy_alloc wa (.cells #[.int .i64 (i : Int)] 3) none)
                 have hQ6 := hQa.same (w' := w6) fun g hg => hgr6.block g (hQa.lt hg) (fun e => hap g hg e.symm)
                 have hap6 := hap.push (n := O.length + 1) (c := cap6) hQa hat6
                 have ho6 : OwnI w6 w.heap.size (.slice (some ⟨g6, 0, none⟩) (O.length + 1) cap6) (O ++ [(i : Int)]) := by simpa [OwnI] using ho6
                 have hcell := hQ6.tail.1
                 have hsz6 := hb6.size)
              | (at_builtin
                 refine wpList_push rfl _ _ rfl rfl (ho6.none_ (World.grownBy_alloc w6 _ none)) w6.heap.size 1 x rfl (Blk.new w6 _ _) (by simp; omega) (by show _ ≤ (w6.heap.push _).size; simp; omega) ?_
                 intro g7 cap7 w7 ho7 hgr7 hat7 _
                 have hb7 := (hb6.alloc hb6.size (.cells #[.int .i64 x] 3)).grown hgr7 (by show _ ≤ (w6.heap.push _).size; simp; omega) (fun g hg => ho6.ge hg)
                 have hQb := hQ6.none_ (World.grownBy_alloc w6 (.cells #[.int .i64 x] 3) none)
                 have hQ7 := hQb.same (w' := w7) fun g hg => hgr7.block g (hQb.lt hg) (fun e => hap6 g hg e.symm)
                 have hap7 := hap6.push (n := (O ++ [(i : Int)]).length + 1) (c := cap7) hQb hat7
                 have hQ8 := hQ7.tail.2))
            go_roundw
            case rel => exact ⟨i + 1, p + 1, t, (O ++ [(i : Int)]) ++ [x], Q2, some g, by omega, by go_num, rfl, by omega, by simp; omega, by omega, hW1, hL1, by simpa [OwnI] using ho7, hQ8, by simpa using hap7, hb7⟩
            case measure => simp only [intOf]; omega
        · have hg : ((s[i].toNat : Int) == 99) = false := by rw [hy]; rfl
          rw [hy] at hst
          obtain ⟨hst1, hst2⟩ := hst (Q ++ [(i : Int)]) t rfl rfl
          clear hst hy hat
          by_cases ht0 : 0 < t
          · have hti : (0 : Int) < t := by omega
            obtain rfl := wait_none hW.out ht0
            obtain ⟨hW1, hs1⟩ := hst2 (i : Int) [] rfl ht0
            have hW1 := Lib.hid hW1
            have hL1 := Lib.hid (show N.length ≤ C.length → (O ++ [(i : Int)]) ++ srvT N C ((bts s).drop (i + 1)) (i + 1) (p + 1) = R from fun h => by rw [← hL.out h, hs1 h, if_neg (by decide)]; simp)
            clear hst1 hst2 hs1
            obtain ⟨t1, ht1⟩ : ∃ t1 : Nat, t = t1 + 1 := ⟨t - 1, by omega⟩
            go_wp2_with (first
              | (at_builtin
                 refine wpList_pushR rfl _ _ rfl rfl (hoQ.none_ (World.grownBy_alloc wa (.cells #[.int .i64 (i : Int)] 3) none)) (by show _ ≤ (wa.heap.push _).size; simp; omega) wa.heap.size 1 (i : Int) rfl ((Blk.new wa _ _).cell 0) (by simp) ?_
                 intro v6 g6 w6 hq6 hat6 hfr6
                 have hb6 := hfr6.below (hbe.alloc hbe.size (.cells #[.int .i64 (i : Int)] 3)) (by show _ ≤ (wa.heap.push _).size; simp; omega) (fun j hj => hoQ.ge hj)
                 have hO1 := hoO.none_ (World.grownBy_alloc wa (.cells #[.int .i64 (i : Int)] 3) none)
                 have ho6 := hO1.fr hfr6 hap
                 have hap6 := hap.new hO1 (hat6.imp_right fun h => h)
                 have hQ6 : RowI w6 w.heap.size v6 (some g6) [(i : Int)] := hq6
                 obtain ⟨g, off, cap, e1, rfl, hcap, _, _, _⟩ := hQ6.cut
                 injection e1 with e1
                 subst e1
                 have hcapi : (1 : Int) ≤ cap := by simp at hcap; omega
                 have hcell := hQ6.tail.1
                 have hsz6 := hb6.size
                 clear hq6 hfr6)
              | (at_builtin
                 refine wpList_push rfl _ _ rfl rfl (ho6.none_ (World.grownBy_alloc w6 _ none)) w6.heap.size 1 (i : Int) rfl (Blk.new w6 _ _) (by omega) (by show _ ≤ (w6.heap.push _).size; simp; omega) ?_
                 intro g7 cap7 w7 ho7 hgr7 hat7 _
                 have hb7 := (hb6.alloc hb6.size (.cells #[.int .i64 (i : Int)] 3)).grown hgr7 (by show _ ≤ (w6.heap.push _).size; simp; omega) (fun g hg => ho6.ge hg)
                 have hQb := hQ6.none_ (World.grownBy_alloc w6 (.cells #[.int .i64 (i : Int)] 3) none)
                 have hQ7 := hQb.same (w' := w7) fun g hg => hgr7.block g (hQb.lt hg) (fun e => hap6 g hg e.symm)
                 have hap7 := hap6.push (n := O.length + 1) (c := cap7) hQb hat7
                 have hQ8 := hQ7.tail.2))
            go_roundw
            case rel => exact ⟨i + 1, p + 1, t - 1, O ++ [(i : Int)], [], some g6, by omega, by go_num, by go_num, by omega, by simp; omega, by simp, hW1, hL1, by simpa [OwnI] using ho7, hQ8, by simpa using hap7, hb7⟩
            case measure => simp only [intOf]; omega
          · obtain rfl : t = 0 := by omega
            obtain ⟨hW1, hs1⟩ := hst1 (Or.inr rfl)
            have hW1 := Lib.hid hW1
            have hL1 := Lib.hid (show N.length ≤ C.length → O ++ srvT N C ((bts s).drop (i + 1)) (i + 1) p = R from fun h => by rw [← hL.out h, hs1 h, if_neg (by decide), List.nil_append])
            clear hst1 hst2 hs1
            go_wp2_with (first
              | (at_builtin
                 refine wpList_pushR rfl _ _ rfl rfl (hoQ.none_ (World.grownBy_alloc wa (.cells #[.int .i64 (i : Int)] 3) none)) (by show _ ≤ (wa.heap.push _).size; simp; omega) wa.heap.size 1 (i : Int) rfl ((Blk.new wa _ _).cell 0) (by omega) ?_
                 intro v6 g6 w6 hq6 hat6 hfr6
                 have hb6 := hfr6.below (hbe.alloc hbe.size (.cells #[.int .i64 (i : Int)] 3)) (by show _ ≤ (wa.heap.push _).size; simp; omega) (fun j hj => hoQ.ge hj)
                 have hO1 := hoO.none_ (World.grownBy_alloc wa (.cells #[.int .i64 (i : Int)] 3) none)
                 have ho6 := hO1.fr hfr6 hap
                 have hap6 := hap.new hO1 (hat6.imp_right fun h => h)
                 obtain ⟨A6, c6, rfl⟩ := hq6.len
                 rw [List.length_append, List.length_singleton] at hq6 ⊢))
            go_roundw
            case rel => exact ⟨i + 1, p, 0, O, Q ++ [(i : Int)], some g6, by omega, by go_num, rfl, by omega, by omega, by simp; omega, hW1, hL1, ho6, hq6, hap6, hb6⟩
            case measure => simp only [intOf]; omega
      · have hlti : ¬ (i : Int) < s.size := by omega
        obtain rfl : i = s.size := by omega
        have hl := hlast.out p Q t hW.out
        rw [List.drop_of_length_le (by rw [bts_len]; omega)] at hL
        cases Q with
        | nil =>
          have hNC := hl.1 rfl
          have hO := Lib.hid (show O = RL ∧ RE = 0 by
            refine ⟨?_, by rw [← hRE.out, if_pos hNC]⟩
            rw [← hRL.out, if_pos hNC, ← hL.out hNC, srvT, List.append_nil])
          obtain ⟨A, c, rfl⟩ := hoQ.len
          rw [hO.out.1] at hoO
          clear hl hNC
          go_wp2_with (fail)
          go_ret2
          exact ⟨_, by rw [hO.out.2]; rfl, hoO, hbe⟩
        | cons x Q2 =>
          have hNC : ¬ N.length ≤ C.length := fun h => by have := hl.2 h; cases this
          have hO := Lib.hid (show RL = [] ∧ RE = 12 from ⟨by rw [← hRL.out, if_neg hNC], by rw [← hRE.out, if_neg hNC]⟩)
          obtain ⟨A, c, rfl⟩ := hoQ.len
          clear hl hNC
          go_wp2_with (fail)
          go_ret2
          exact ⟨_, by rw [hO.out.2]; rfl, by rw [hO.out.1]; exact OwnI.nil _ _, hbe⟩
  · have hR := Lib.hid (show serL (bts s) b = [] ∧ serE (bts s) b = k by unfold serL serE; rw [hk]; simp [h0])
    have hk0 : (k != 0) = true := by simp [h0]
    rw [hR.out.1, hR.out.2]
    clear hk
    go_enter Tryd.func38, Tryd.ntmps38
    go_wp2_with (first
      | (go_at_call 52; (with_reducible refine (begun_any _ _ _).mono ?_); rintro e wz ⟨rfl, hwz⟩; replace hwz := hwz.symm; subst hwz; rw [hkH.out]))
    go_ret2
    exact ⟨_, rfl, OwnI.nil _ _, Below.refl _ _⟩
end Go.Proofs.YtfcfhiekkpflcaaDoor
