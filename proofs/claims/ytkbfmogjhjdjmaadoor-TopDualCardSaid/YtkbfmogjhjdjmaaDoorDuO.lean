/- pattern.Triangles. -/
import Derived.Test.YtkbfmogjhjdjmaaDoorDuLN
import Derived.Deep.CutRange
namespace Go.Proofs.YtkbfmogjhjdjmaaDoor
open Go.RowKit
namespace Du
set_option linter.unusedSimpArgs false
def RetTri (w : World) (l : List Tri) (er : Int) (e : Ending) (w' : World) : Prop := ∃ v, e = .returned (.tuple #[v, .int .i64 er]) ∧ OwnT w' w.heap.size v l ∧ Below w.heap.size w w'
theorem PtO.rebase {w : World} {b b' g cap : Nat} {ps : List Pt} (h : PtO w b g cap ps) (hb : b' ≤ b) : PtO w b' g cap ps := ⟨Nat.le_trans hb h.1, h.2⟩
theorem PtO.none_ {w w' : World} {base g cap : Nat} {ps : List Pt} (h : PtO w base g cap ps) (hb : w.grownBy w' none) : PtO w' base g cap ps := by
  obtain ⟨h1, cs, hB, h2, h3, hc⟩ := h
  exact ⟨h1, cs, hB.none_ hb, h2, h3, hc⟩
theorem PtO.row {w w' : World} {base g cap : Nat} {ps : List Pt} {v : Value} {T : List Tri} {b' : Nat} (h : PtO w base g cap ps) (ho : OwnT w b' v T) (hb : w.grownBy w' v.ownBlock) : PtO w' base g cap ps := by
  obtain ⟨h1, cs, hB, h2, h3, hc⟩ := h
  exact ⟨h1, cs, hB.grown hb (fun e => ho.ne_blk hB (by decide) e.symm), h2, h3, hc⟩
theorem PtO.drew {w : World} {base g cap : Nat} {ps : List Pt} (h : PtO w base g cap ps) : PtO w.drew base g cap ps := h
theorem PtO.ne_own {w : World} {base g cap : Nat} {ps : List Pt} {v : Value} {T : List Tri} {b' : Nat} (h : PtO w base g cap ps) (ho : OwnT w b' v T) : v.ownBlock ≠ some g := by
  obtain ⟨h1, cs, hB, h2, h3, hc⟩ := h
  exact ho.ne_blk hB (by decide)
theorem PtO.at_ {w : World} {base g cap : Nat} {ps : List Pt} (h : PtO w base g cap ps) {i : Nat} {p : Pt} (hi : ps[i]? = some p) : w.cell? ⟨g, i * 2, none⟩ = some (.int .i64 p.1) ∧ w.cell? ⟨g, i * 2 + 1, none⟩ = some (.int .i64 p.2) := by
  obtain ⟨_, cs, hB, _, _, hc⟩ := h
  rw [hB.cell, hB.cell]
  exact hc i p hi
theorem arrayAt_ok (g cap : Nat) (w : World) : (Instr.arrayAt 36 (.slice (some ⟨g, 0, none⟩) 3 cap)).run Tryd.prog w = .ok (.pointer (some ⟨g, 0, none⟩)) w := by kernel_rfl
set_option maxRecDepth 100000 in
set_option maxHeartbeats 2000000 in
theorem Triangles_ok (A : Option Addr) (n c : Nat) (o : List Pt) (hn : o.length = n) (h3 : 3 ≤ n) (h8 : n ≤ 8) (hcap : n ≤ c) (hI : In12 o) (hD : o.Nodup) (hG : pieceOk o = true) (w : World) (hP : PtS w A o) :
    Calls Tryd.prog 5 #[.slice A n c] w (RetTri w (tris (n - 3) o) 0) := by
  have hchk := Lib.hid (fun w' (hb : Below w.heap.size w w') => Check_ok A n c o hn h3 h8 hcap hI hD w' (hP.below hb))
  have hE0 : chkE o = 0 := by unfold chkE; rw [if_pos hG]
  rw [hE0] at hchk
  have hcl := Lib.hid (fun w' (hb : Below w.heap.size w w') => clone_ok A n c o hn (by omega) (by omega) w' (hP.below hb))
  obtain ⟨TR, hTR⟩ : ∃ t, tris (n - 3) o = t := ⟨_, rfl⟩
  rw [hTR]
  have HS := Lib.hid hI.sm
  have HN := Lib.hid hn
  have HT := Lib.hid (show [] ++ tris (n - 3) o = TR from hTR)
  clear hP hI hD hG hE0 hn hTR
  go_enter Tryd.func5, Tryd.ntmps5
  go_wp2_with (first
    | (go_at_call 6; (with_reducible refine (hchk.out _ (Below.refl _ _)).mono ?_); rintro e w1 ⟨rfl, hb1⟩)
    | (go_at_call 13; (with_reducible refine (hcl.out _ hb1).mono ?_); rintro e w2 ⟨⟨g0, cap0, rfl, hc1, hc2, hO2⟩, hb2⟩
       have hbb2 := hb1.trans (hb2.mono hb1.size)
       replace hO2 := hO2.rebase hb1.size))
  go_loopw [5, 6] (fun u v wr => ∃ (m : Nat) (q : List Pt) (T : List Tri) (g cap : Nat), 3 ≤ m ∧ m ≤ 8 ∧ m ≤ cap ∧ cap ≤ maxLen ∧ T.length + m ≤ 100 ∧ Hid (q.length = m) ∧ Hid (SmL 12 q) ∧ Hid (T ++ tris (m - 3) q = TR) ∧ v = .slice (some ⟨g, 0, none⟩) m cap ∧ PtO wr w.heap.size g cap q ∧ OwnT wr w.heap.size u T ∧ Below w.heap.size w wr) (fun _ v _ => slLen v)
  case atStart => exact ⟨n, o, [], g0, cap0, h3, h8, hc1, hc2, by simp; omega, HN, HS, HT, rfl, hO2, OwnT.nil _ _, hbb2⟩
  case round =>
    clear hO2 hbb2 hb1 hb2 hc1 hc2 HN HS HT
    obtain ⟨m, q, T, g, cap, hm3, hm8, hmc, hcm, hTl, HN, HS, HT, rfl, hO, hT, hb⟩ := hrel
    obtain ⟨wa, rfl⟩ : ∃ x, x = wr := ⟨wr, rfl⟩
    by_cases hlt : 3 < m
    · have hlti : (3 : Int) < m := by omega
      have hm8i : (m : Int) ≤ 8 := by omega
      have hear := Lib.hid (fun w' (hb' : Below wa.heap.size wa w') i (hi : i < m) => ear_ok (some ⟨g, 0, none⟩) m cap i q HN.out hm3 hm8 hi HS.out w' (hO.below hb').pts)
      go_wp2_with (fail)
      go_loopw [7] (fun v wr => ∃ j : Nat, j ≤ m - 1 ∧ v = .int .i64 j ∧ (∀ x, x < j → earO q x = false) ∧ Below wa.heap.size wa wr) (fun v _ => m - (intOf v).toNat)
      case atStart => exact ⟨0, by omega, rfl, fun x hx => absurd hx (by omega), Below.refl _ _⟩
      case round =>
        obtain ⟨j, hj, rfl, hpre, hbj⟩ := hrel
        obtain ⟨wb, rfl⟩ : ∃ x, x = wr := ⟨wr, rfl⟩
        have HPRE := Lib.hid hpre
        clear hpre
        have hjm : j < m := by omega
        have hjmi : (j : Int) < m := by omega
        have he := Lib.hid (fun w' hb' => hear.out w' hb' j hjm)
        obtain ⟨q0, hq0⟩ : ∃ x, earO q j = x := ⟨_, rfl⟩
        rw [hq0] at he
        have HQ := Lib.hid hq0
        clear hq0
        obtain ⟨b, hbb⟩ : ∃ b, (decide ((j : Int) < (m : Int) - 1) && !q0) = b := ⟨_, rfl⟩
        have HB := Lib.hid hbb
        clear hbb
        go_upto_region 8 with (fail)
        go_cut [28] from 18 to 28 (fun v wx => v = .bool b ∧ Below wb.heap.size wb wx)
        case first =>
          by_cases hj1 : (j : Int) < (m : Int) - 1
          · have hd : decide ((j : Int) < (m : Int) - 1) = true := decide_eq_true hj1
            go_wp2_with (go_at_call 14; (with_reducible refine (he.out _ hbj).mono ?_); rintro e w3 ⟨rfl, hb3⟩)
            go_meet
            exact ⟨by rw [← HB.out, hd]; rfl, hb3⟩
          · have hd : decide ((j : Int) < (m : Int) - 1) = false := decide_eq_false hj1
            go_wp2_with (fail)
            go_meet
            exact ⟨by rw [← HB.out, hd]; rfl, Below.refl _ _⟩
        case rest =>
        obtain ⟨rfl, hbc0⟩ := hcut
        obtain ⟨wx, hwx⟩ : ∃ x, x = wc := ⟨_, rfl⟩
        subst hwx
        have hbx := hbj.trans (hbc0.mono hbj.size)
        clear hbc0 hbj he hear
        cases b with
        | true =>
          have hq : q0 = false ∧ (j : Int) < (m : Int) - 1 := by
            have := HB.out
            simp at this
            exact ⟨this.2, this.1⟩
          obtain ⟨rfl, hj1⟩ := hq
          go_wp2_with (fail)
          go_roundw
          case rel => exact ⟨j + 1, by omega, by go_num, fun x hx => by
            rcases Nat.lt_or_ge x j with h | h
            · exact HPRE.out x h
            · obtain rfl : x = j := by omega
              exact HQ.out, hbx⟩
          case measure => simp [intOf]; omega
        | false =>
          have hfirst : firstEar q = j := first_eq HN.out HPRE.out hj (by
            have := HB.out
            rw [HQ.out]
            cases q0 with
            | true => exact Or.inr rfl
            | false =>
              left
              simp at this
              omega)
          have HF := Lib.hid hfirst
          clear hfirst HPRE HQ HB q0
          have hp : q[j]? = some (at' q j) := get_at (by rw [HN.out]; exact hjm)
          have hO' := hO.below hbx
          have hT' := hT.callee hbx
          have hbw := hb.trans (hbx.mono hb.size)
          obtain ⟨P, hPP⟩ : ∃ p, prev q j = p := ⟨_, rfl⟩
          obtain ⟨Q, hQQ⟩ : ∃ p, at' q j = p := ⟨_, rfl⟩
          obtain ⟨R, hRR⟩ : ∃ p, at' q (j + 1) = p := ⟨_, rfl⟩
          have hatp := Lib.hid (fun w' (hb' : PtO w' w.heap.size g cap q) => at_prev (some ⟨g, 0, none⟩) m cap q HN.out (by omega) hm8 w' hb'.pts j (by omega))
          have hatn : Hid (∀ w', PtO w' w.heap.size g cap q → Calls Tryd.prog 15 #[.slice (some ⟨g, 0, none⟩) m cap, .int .i64 ((j : Int) + 1)] w' fun e w'' => e = .returned (ptV (at' q (j + 1))) ∧ Below w'.heap.size w' w'') := fun w' hb' => by
            have := at_nat (some ⟨g, 0, none⟩) m cap q HN.out (by omega) hm8 w' hb'.pts (j + 1) (by omega)
            rw [show ((j + 1 : Nat) : Int) = (j : Int) + 1 by omega] at this
            exact this
          have hdel : Hid (∀ w', PtO w' w.heap.size g cap q → Calls Tryd.prog 16 #[.slice (some ⟨g, 0, none⟩) m cap, .int .i64 j, .int .i64 ((j : Int) + 1)] w' fun e w'' => e = .returned (.slice (some ⟨g, 0, none⟩) (m - 1) cap) ∧ PtO w'' w.heap.size g cap (q.eraseIdx j) ∧ w'.grownBy w'' (some g)) := fun w' hb' => by
            have := delete_ok w.heap.size g m cap j (j + 1) q HN.out rfl hjm (by omega) hmc hcm w' hb'
            rw [show ((j + 1 : Nat) : Int) = (j : Int) + 1 by omega] at this
            exact this
          have HNEW : Hid ((T ++ [(P, Q, R)]) ++ tris (m - 1 - 3) (q.eraseIdx j) = TR) := by
            have := HT.out
            rw [show m - 3 = (m - 1 - 3) + 1 by omega, tris_succ _ _ HF.out, hPP, hQQ, hRR] at this
            rw [Hid, ← this]
            simp
          have HNE := Lib.hid (show (q.eraseIdx j).length = m - 1 by rw [List.length_eraseIdx, HN.out, if_pos hjm])
          have HSE := Lib.hid (SmL.erase HS.out j)
          rw [hPP] at hatp
          rw [hRR] at hatn
          rw [hQQ] at hp
          have HP := Lib.hid (fun w' (h : PtO w' w.heap.size g cap q) => And.intro (h.at_ hp).1 (And.intro (h.at_ hp).2 h))
          clear hPP hQQ hRR hp HF HT hO hT hb hbx
          obtain ⟨P1, P2⟩ := P
          obtain ⟨Q1, Q2⟩ := Q
          obtain ⟨R1, R2⟩ := R
          have ew1 : IntKind.i64.wrap ((j : Int) - 1) = (j : Int) - 1 := IntWalk.i64_in _ (by omega)
          have ew2 : IntKind.i64.wrap ((j : Int) + 1) = (j : Int) + 1 := IntWalk.i64_in _ (by omega)
          have ej0 : (0 : Int) ≤ j := by omega
          have hS0 := HP.out _ hO'
          replace ew1 := Lib.hid ew1
          replace ew2 := Lib.hid ew2
          go_wp2_with (fail)
          replace ew1 := ew1.out
          replace ew2 := ew2.out
          go_region_held3 (fun w' => w'.cell? ⟨g, j * 2, none⟩ = some (.int .i64 Q1) ∧ w'.cell? ⟨g, j * 2 + 1, none⟩ = some (.int .i64 Q2) ∧ PtO w' w.heap.size g cap q)
            (first | exact hS0 | exact hS3 | exact hS4 | exact hS5 | exact hS6)
            (first
              | (go_at_call 15; (with_reducible refine (hatp.out _ hO'.drew).mono ?_); rintro e w3 ⟨rfl, hb3'⟩
                 have hb3 := drew_up hb3'
                 have hO3 := hO'.below hb3
                 have hS3 := HP.out _ hO3
                 have hT3 := hT'.callee hb3
                 have hbb3 := hbw.trans (hb3.mono hbw.size)
                 clear hO' hT' hb3')
              | (go_at_call 15; (with_reducible refine (hatn.out _ hO3).mono ?_); rintro e w4 ⟨rfl, hb4⟩
                 have hO4 := hO3.below hb4
                 have hS4 := HP.out _ hO4
                 have hT4 := hT3.callee hb4
                 have hbb4 := hbb3.trans (hb4.mono hbb3.size)
                 have hgr5 := World.grownBy_alloc w4 (.cells #[.int .i64 P1, .int .i64 P2, .int .i64 Q1, .int .i64 Q2, .int .i64 R1, .int .i64 R2] 36) none
                 have hO5 := hO4.none_ hgr5
                 have hS5 := HP.out _ hO5
                 have hT5 := hT4.none_ hgr5
                 have hbb5 := hbb4.grown hgr5 hbb4.size (by simp))
              | (refine step_pushT rfl _ _ rfl rfl hT5 w4.heap.size 1 ((P1, P2), (Q1, Q2), (R1, R2)) rfl (Blk.new w4 _ _) (by omega) hbb5.size ?_
                 intro g6 cap6 w6 hT6 hgr6 _ _
                 have hO6 := hO5.row hT5 hgr6
                 have hS6 := HP.out _ hO6
                 have hbb6 := hbb5.grown hgr6 hbb5.size (fun g hg => hT5.ge hg)))
          go_wp2_with (first
            | (go_at_call 16; (with_reducible refine (hdel.out _ hO6).mono ?_); rintro e w7 ⟨rfl, hO7, hgr7⟩
               have hT7 := hT6.some_ hgr7 (hO6.ne_own hT6)
               have hbb7 := hbb6.grown hgr7 hbb6.size (fun k hk => by injection hk with hk; rw [← hk]; exact hO6.1)))
          go_roundw
          case rel => exact ⟨m - 1, q.eraseIdx j, _, g, cap, by omega, by omega, by omega, hcm, by simp; omega, HNE, HSE, HNEW, rfl, hO7, by simpa using hT7, hbb7⟩
          case measure => simp [slLen]; omega
    · obtain rfl : m = 3 := by omega
      have e0 := hO.at_ (get_at (i := 0) (by rw [HN.out]; omega))
      have e1 := hO.at_ (get_at (i := 1) (by rw [HN.out]; omega))
      have e2 := hO.at_ (get_at (i := 2) (by rw [HN.out]; omega))
      have HNEW : Hid (T ++ [(at' q 0, at' q 1, at' q 2)] = TR) := HT.out
      obtain ⟨P, hPP⟩ : ∃ p, at' q 0 = p := ⟨_, rfl⟩
      obtain ⟨Q, hQQ⟩ : ∃ p, at' q 1 = p := ⟨_, rfl⟩
      obtain ⟨R, hRR⟩ : ∃ p, at' q 2 = p := ⟨_, rfl⟩
      rw [hPP] at e0 HNEW
      rw [hQQ] at e1 HNEW
      rw [hRR] at e2 HNEW
      clear hPP hQQ hRR HT HN HS hO
      obtain ⟨P1, P2⟩ := P
      obtain ⟨Q1, Q2⟩ := Q
      obtain ⟨R1, R2⟩ := R
      obtain ⟨c0, c1⟩ := e0
      obtain ⟨c2, c3⟩ := e1
      obtain ⟨c4, c5⟩ := e2
      simp only [Nat.zero_mul, Nat.zero_add, Nat.one_mul, Nat.reduceMul, Nat.reduceAdd] at c0 c1 c2 c3 c4 c5
      have hAA := arrayAt_ok
      go_wp2_with (first
        | (at_builtin
           refine wpList_pushT rfl _ _ rfl rfl (hT.none_ (World.grownBy_alloc wa _ none)) wa.heap.size 1 ((P1, P2), (Q1, Q2), (R1, R2)) rfl (Blk.new wa _ _) (by omega) (by have := hb.size; show _ ≤ (wa.heap.push _).size; simp; omega) ?_
           intro g6 cap6 w6 hT6 hgr6 _ _
           have hb6 := (hb.alloc hb.size (.cells #[.int .i64 P1, .int .i64 P2, .int .i64 Q1, .int .i64 Q2, .int .i64 R1, .int .i64 R2] 36)).grown hgr6 (by have := hb.size; show _ ≤ (wa.heap.push _).size; simp; omega) (fun g hg => hT.ge hg)))
      go_ret2
      exact ⟨_, rfl, by rw [← HNEW.out]; simpa using hT6, hb6⟩
theorem Triangles_bad (A : Option Addr) (n c : Nat) (o : List Pt) (hn : o.length = n) (h3 : 3 ≤ n) (h8 : n ≤ 8) (hcap : n ≤ c) (hI : In12 o) (hD : o.Nodup) (hG : pieceOk o = false) (w : World) (hP : PtS w A o) :
    Calls Tryd.prog 5 #[.slice A n c] w fun e w' => e = .returned (.tuple #[.slice none 0 0, .int .i64 5]) ∧ Below w.heap.size w w' := by
  have hchk := Lib.hid (Check_ok A n c o hn h3 h8 hcap hI hD w hP)
  have hE0 : chkE o = 5 := by unfold chkE; rw [if_neg (by rw [hG]; decide)]
  rw [hE0] at hchk
  clear hP hI hD hG hE0 hn
  go_enter Tryd.func5, Tryd.ntmps5
  go_wp2_with (first
    | (go_at_call 6; (with_reducible refine hchk.out.mono ?_); rintro e w1 ⟨rfl, hb1⟩))
  go_ret2
  exact ⟨rfl, hb1⟩
end Du
end Go.Proofs.YtkbfmogjhjdjmaaDoor
