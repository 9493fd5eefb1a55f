/- The law's TopBoxed. -/
import Derived.Test.YthbkfhhnhiplkaaDoorTwB
import Derived.Test.YthbkfhhnhiplkaaDoorBoxQ
import Derived.Test.YthbkfhhnhiplkaaDoorBoxD
import Derived.Test.YthbkfhhnhiplkaaDoorBuU
namespace Go.Proofs.YthbkfhhnhiplkaaDoor
open Go.RowKit Go.Maps
namespace Bx
open Ti (bts bts_len bts_at bts_mk bts_append)
open Bu (natI natI_at Div)
/-- what a round keeps: the map, the division, and all that was there -/
structure Kp (w w' : World) (nn m : Nat) (S : Lit → Bool) (A : Option Addr) (q cp : Nat) (L : List Nat) : Prop where
  set : SetM Tryd.prog 4 w' 37 w.heap.size nn m S
  own : OwnI w' (w.heap.size + 1) (.slice A q cp) (natI L)
  be : Below w.heap.size w w'
section
variable {w w1 w2 : World} {nn m nn' m' : Nat} {S S' : Lit → Bool} {A : Option Addr} {q cp : Nat} {L : List Nat}
theorem Kp.step (h : Kp w w1 nn m S A q cp L) (hb : Below w1.heap.size w1 w2) : Kp w w2 nn m S A q cp L :=
  ⟨h.set.callee hb, h.own.callee hb, h.be.trans (hb.mono h.be.size)⟩
theorem Kp.put (h : Kp w w1 nn m S A q cp L) (hS : SetM Tryd.prog 4 w2 37 w.heap.size nn' m' S') (hg : w1.grownBy w2 (some w.heap.size)) : Kp w w2 nn' m' S' A q cp L :=
  ⟨hS, h.own.some_ hg (fun e => by have := h.own.ge e; omega), below_some h.be hg h.be.size (Nat.le_refl _)⟩
theorem Kp.rd (h : Kp w w1 nn m S A q cp L) : RInts w1 w1.heap.size A q (natI L) := by
  obtain ⟨A', c', e, hr⟩ := h.own.reads
  injection e with e1 e2 e3
  subst e1 e2
  exact hr
end
theorem own_reads {w w' : World} {b : Nat} {v : Value} {L : List Nat} (h : OwnI w b v (natI L)) (hb : w' = w) : ∃ A c, v = .slice A L.length c ∧ RInts w' w'.heap.size A L.length (natI L) := by
  subst hb
  obtain ⟨A, c, h1, h2⟩ := h.reads
  have e : (natI L).length = L.length := by simp [natI]
  rw [e] at h1 h2
  exact ⟨A, c, h1, h2⟩
theorem same_eq {w : World} {A B : Option Addr} {n m c d : Nat} {xs ys : List Int} (h : xs = ys) (ha : RInts w w.heap.size A n xs) (hb : RInts w w.heap.size B m ys) (hl : xs.length ≤ 100000) :
    Calls Tryd.prog 15 #[.slice A n c, .slice B m d] w fun e w' => e = .returned (.bool true) ∧ Below w.heap.size w w' := by
  subst h
  refine (same_any A B n m c d xs xs w _ ha hb (Tw.max_of ha hl) (Tw.max_of hb hl)).mono ?_
  rintro e w' ⟨rfl, q, rfl⟩
  exact ⟨by rw [beq_self_eq_true], below_drewN (Below.refl _ _) q⟩
theorem back_step {l : List UInt8} {i : Nat} {x : UInt8} (h : l[i]? = some x) : backL (l.drop i) = backL (l.drop (i + 1)) ++ [flipB x] := by
  obtain ⟨hj, he⟩ := List.getElem?_eq_some_iff.1 h
  rw [List.drop_eq_getElem_cons hj, he]
  simp [backL]
theorem back_len (l : List UInt8) : (backL l).length = l.length := by simp [backL]
theorem div_len (l : List UInt8) : (divL l).length ≤ l.length := by
  induction l with
  | nil => exact Nat.le_refl _
  | cons x l ih =>
    rw [divL]
    split
    · split
      · simp only [List.length_cons]; omega
      · simp only [List.length_cons]; omega
    · simp only [List.length_cons]; omega
theorem fits_step (c i : Nat) (L : List Nat) : fitsL c (i + 1) L = (fitsL c i L && decide ((i : Int) + 1 ≤ (c : Int) - (L.getD i 0 : Nat))) := by
  unfold fitsL
  rw [List.range_succ, List.all_append]
  simp
set_option maxRecDepth 100000 in
set_option maxHeartbeats 4000000 in
theorem boxed_law (x0 x1 : Int) (hx0 : 0 ≤ x0 ∧ x0 ≤ 255) (hx1 : 0 ≤ x1 ∧ x1 ≤ 255) (w : World) (hT : Cl.Tab w) : Calls Tryd.prog 4 #[.int .u8 x0, .int .u8 x1] w fun e w' => e = .returned (.bool true) ∧ Below w.heap.size w w' := by
  have hmm := @run_makeMap Tryd.prog
  obtain ⟨c, hc⟩ : ∃ n : Nat, x0 % 5 = n := ⟨(x0 % 5).toNat, by omega⟩
  have hc1 : Int.tmod x0 5 = c := by rw [Int.tmod_eq_emod_of_nonneg (by omega)]; exact hc
  have hc4 : c ≤ 4 := by omega
  obtain ⟨n, hn⟩ : ∃ n : Nat, x1 % 5 = n := ⟨(x1 % 5).toNat, by omega⟩
  have hn1 : Int.tmod x1 5 = n := by rw [Int.tmod_eq_emod_of_nonneg (by omega)]; exact hn
  have hn4 : n ≤ 4 := by omega
  have hBx := Lib.hid (box_of hc4 hn4)
  obtain ⟨N, hN⟩ : ∃ N, boxN c n = N := ⟨_, rfl⟩
  have hNH := Lib.hid hN
  have hlo := hBx.out.lo
  have hhi := hBx.out.hi
  rw [hN] at hlo hhi
  have cC := Lib.hid (fun w' => Ti.Count_any c n n w')
  rw [hBx.out.e1, hBx.out.v1, hN] at cC
  have cZ := Lib.hid (fun w' => Ti.Count_any c n 0 w')
  rw [hBx.out.e0, hBx.out.v0, hN] at cZ
  have hTH := Lib.hid hT
  have hbe := (Below.refl w.heap.size w).alloc (Nat.le_refl _) (.map #[] 0)
  have hS0 := SetM.made (P := Tryd.prog) (e := 4) w 37
  have hM0 := Lib.hid (show ∀ a b, a ≤ 1000000 → b ≤ 1000000 → ((fun _ => false : Lit → Bool) (litB a b) = true ↔ MetB c n 0 a b) from fun a b _ _ => ⟨fun h => (by cases h), fun ⟨y, hy, _⟩ => (by omega)⟩)
  clear hN hc hn hT
  go_enter Tryd.func4, Tryd.ntmps4
  go_wp2_with (first
    | (go_at_call 11; (with_reducible refine (cC.out _).mono ?_); rintro e wz ⟨rfl, hwz⟩; replace hwz := hwz.symm; subst hwz))
  go_loopw [11, 55] (fun g v wr => ∃ (k gd nn m : Nat) (S : Lit → Bool), k ≤ N ∧ v = .int .i64 k ∧ g = .int .i64 gd ∧ gd ≤ k ∧ nn ≤ k ∧ Hid (cntG c n k = gd) ∧ SetM Tryd.prog 4 wr 37 w.heap.size nn m S ∧ Hid (∀ a b, a ≤ 1000000 → b ≤ 1000000 → (S (litB a b) = true ↔ MetB c n k a b)) ∧ Below w.heap.size w wr) (fun _ v _ => N - (intOf v).toNat)
  case atStart => exact ⟨0, 0, 0, 0, _, by omega, rfl, rfl, Nat.le_refl _, Nat.le_refl _, Lib.hid rfl, hS0, hM0, hbe⟩
  case round =>
    clear hbe hS0 hM0 cC
    obtain ⟨k, gd, nn, m, S, hkN, rfl, rfl, hgd, hnn, hG, hS, hM, hbe⟩ := hrel
    obtain ⟨wa, rfl⟩ : ∃ x, x = wr := ⟨wr, rfl⟩
    by_cases hlt : k < N
    · have hlti : (k : Int) < N := by omega
      have hkB : k < boxN c n := by rw [hNH.out]; exact hlt
      have hOne := Lib.hid (one_of (hBx.out.one k hkB))
      have hnew := met_new hBx.out hkB
      have hkl := key_le hOne.out
      have hwl := len_le hc4 hn4 hOne.out
      obtain ⟨W, hW⟩ : ∃ W, ordW c n k = W := ⟨_, rfl⟩
      have hWl := hOne.out.len
      have hdv := hOne.out.dv
      have htu := hOne.out.tu
      have hla := hOne.out.la
      have hgs : cntG c n (k + 1) = if goodB c n k then cntG c n k + 1 else cntG c n k := rfl
      rw [hG.out] at hgs
      unfold goodB at hgs
      have hkey : keyB c n k = ((divL W).sum, numD (divL W) (divL W).sum) := by rw [← hW]; rfl
      rw [hW] at hWl hdv htu hla hgs hwl
      rw [hkey] at hnew hkl
      have hkeyH := Lib.hid hkey
      obtain ⟨L, hL⟩ : ∃ L, divL W = L := ⟨_, rfl⟩
      rw [hL] at hdv htu hla hnew hkl hkeyH hgs
      obtain ⟨sm, hsm⟩ : ∃ q, L.sum = q := ⟨_, rfl⟩
      obtain ⟨nb, hnb⟩ : ∃ q, numD L sm = q := ⟨_, rfl⟩
      rw [hsm, hnb] at hnew hkl hkeyH
      have hsm30 : sm ≤ 30 := by rw [← hsm]; exact hdv.sum
      have hSn : S (litB sm nb) = false := by
        cases hs : S (litB sm nb) with
        | false => rfl
        | true => exact absurd ((hM.out sm nb hkl.1 hkl.2).1 hs) hnew
      obtain ⟨O, hO⟩ : ∃ O : ByteArray, (⟨W.toArray⟩ : ByteArray) = O := ⟨_, rfl⟩
      have hbO : bts O = W := by rw [← hO, bts_mk]
      have hOs : O.size = c + n := by rw [← bts_len, hbO, hWl]
      have hO8 : O.size ≤ 8 := by omega
      have cA := Lib.hid (fun w' => Ti.At_any c n n k w')
      rw [hOne.out.e, show Ti.atV c n n k = W from hW, hO] at cA
      have cD := Lib.hid (fun w' => division_any O (by omega) w')
      rw [hbO, hL] at cD
      have cN := Lib.hid (fun A q cp w' (hr : RInts w' w'.heap.size A q (natI L)) => Bu.Number_ok A q cp L hdv w' w'.heap.size (Nat.le_refl _) hr)
      rw [hsm, hnb] at cN
      obtain ⟨ql, hql⟩ : ∃ q, L.length = q := ⟨_, rfl⟩
      rw [hql] at htu
      have cT := Lib.hid (fun A cp w' (hr : RInts w' w'.heap.size A ql (natI L)) => Bu.Turn_ok A ql cp L hdv w' w'.heap.size (Nat.le_refl _) hr)
      rw [htu] at cT
      have hTl : (natI (divL (backL W))).length ≤ 100000 := by
        have h1 := div_len (backL W)
        rw [back_len] at h1
        simp only [natI, List.length_map]
        omega
      obtain ⟨TL, hTL⟩ : ∃ q, divL (backL W) = q := ⟨_, rfl⟩
      rw [hTL] at cT hTl
      have hTLH := Lib.hid hTL
      have cL := Lib.hid (fun w' => Ti.Lacks_any O 0 w')
      rw [hbO] at cL
      obtain ⟨lv, hlv⟩ : ∃ q, Ti.lackV W 0 = q := ⟨_, rfl⟩
      obtain ⟨le, hle⟩ : ∃ q, Ti.lackE W 0 = q := ⟨_, rfl⟩
      rw [hlv, hle] at cL
      rw [hle] at hla
      obtain ⟨fq, hfq⟩ : ∃ q, fitsL c n L = q := ⟨_, rfl⟩
      rw [hfq] at hla hgs
      have hfqH := Lib.hid hfq
      have hlaH := Lib.hid hla
      have hgsH := Lib.hid hgs
      have hsmH := Lib.hid hsm
      have hbOH := Lib.hid hbO
      have hdvH := Lib.hid hdv
      have hWO := Lib.hid (show W.length = O.size by omega)
      have hqlH := Lib.hid hql
      have hq30 : ql ≤ 30 := by rw [← hql]; exact hdv.len
      have hg12 : ((O.size : Int) != (c : Int) + (n : Int)) = false := by
        rw [show (O.size : Int) = (c : Int) + n by omega]; simp
      have hkeyO := Lib.hid (key_lit hkl.1 hkl.2)
      clear hkey hL hsm hnb hnew hO hW hWl htu hla hgs hTL hlv hle hfq hbO hdv hkB hwl
      go_wp2_with (first
        | (go_at_call 12; (with_reducible refine (cA.out _).mono ?_); rintro e w1 ⟨rfl, hb1⟩; replace hbe := hbe.trans (hb1.mono hbe.size); replace hS := hS.callee hb1; clear hb1)
        | (go_at_call 10; (with_reducible refine (cD.out _).mono ?_); rintro e w2 ⟨⟨v2, rfl, ho2⟩, hb2⟩
           obtain ⟨A, cp, rfl, hr2⟩ := own_reads ho2 rfl
           have ho2 := Pk.own_mono ho2 (show w.heap.size + 1 ≤ w1.heap.size from hS.lt)
           rw [hql] at ho2
           rw [hql]
           have hK : Kp w w2 nn m S A ql cp L := ⟨hS.callee hb2, ho2, hbe.trans (hb2.mono hbe.size)⟩
           clear hS hbe hb2 ho2 hr2))
      go_loopw [16, 81] (fun t v wr => ∃ i y : Nat, i ≤ ql ∧ v = .int .i64 i ∧ t = .int .i64 y ∧ y ≤ 30 ∧ Hid ((L.take i).sum = y) ∧ w2 = wr) (fun _ v _ => ql - (intOf v).toNat)
      case atStart => exact ⟨0, 0, by omega, rfl, rfl, by omega, Lib.hid rfl, rfl⟩
      case round =>
        obtain ⟨i, y, hi, rfl, rfl, hy30, hy, hw⟩ := hrel
        subst hw
        by_cases hlt2 : i < ql
        · have hlti2 : (i : Int) < ql := by omega
          obtain ⟨ad, z, rfl, _, hcell, hz⟩ := hK.rd.at_ hlt2
          obtain ⟨x, hx, rfl⟩ := natI_at hz.out
          have hst := Bu.sum_take hx
          have hle2 := Bu.sum_le L (i + 1)
          rw [hsmH.out] at hle2
          rw [hy.out] at hst
          rw [hst] at hle2
          have hN2 := Lib.hid hst
          have hx30 : y + x ≤ 30 := by omega
          clear hz hx hst
          go_wp2_with (fail)
          go_roundw
          case rel => exact ⟨i + 1, y + x, by omega, by go_num, by go_num, by omega, hN2, by first | rfl | trivial⟩
          case measure => simp only [intOf]; omega
        · have hlti2 : ¬ (i : Int) < ql := by omega
          obtain rfl : y = sm := by
            rw [← hy.out, List.take_of_length_le (by rw [hqlH.out]; omega), hsmH.out]
          clear hy
          go_wp2_with (first
            | (go_at_call 13; (with_reducible refine (cN.out _ _ _ _ hK.rd).mono ?_); rintro e w3 ⟨rfl, hb3⟩
               have hK3 := hK.step hb3
               have hlook := hK3.set.look keyPair Tryd.underlying34 Tryd.underlying4 (Tryd.zeroValue4 w3) hkeyO.out
               rw [hSn] at hlook
               obtain ⟨w5, hup, hS5, hg5⟩ := hK3.set.put keyPair Tryd.underlying34 Tryd.underlying4 (by unfold maxLen; omega) hkeyO.out
               rw [hSn, if_neg (by decide)] at hS5
               have hK5 := hK3.put hS5 hg5
               clear hg5 hS5 hb3 hK3))
          clear hlook hup hK
          go_loopw [20, 21] (fun o v wr => ∃ (i : Nat) (t : ByteArray), i ≤ O.size ∧ v = .int .i64 ((i : Int) - 1) ∧ o = .string t ∧ t.size + i = O.size ∧ Hid (bts t = backL (W.drop i)) ∧ w5 = wr) (fun _ v _ => (intOf v + 1).toNat)
          case atStart => exact ⟨c + n, _, by omega, by rw [Int.natCast_add], rfl, by rw [hOs]; show 0 + (c + n) = c + n; omega, Lib.hid (by rw [List.drop_of_length_le (by rw [hWO.out]; omega)]; rfl), rfl⟩
          case round =>
            obtain ⟨i, t, hi, hv, rfl, hts, ht, hw⟩ := hrel
            subst hw
            cases i with
            | succ j =>
              have hv2 := hv.trans (show Value.int .i64 (((j + 1 : Nat) : Int) - 1) = Value.int .i64 (j : Int) by congr 1; omega)
              clear hv
              subst hv2
              have hjO : j < O.size := by omega
              have hji : (j : Int) < O.size := by omega
              have hat := bts_at O j hjO
              rw [hbOH.out] at hat
              have hst := back_step hat
              rw [← ht.out] at hst
              have ha1 : ∀ w', (Op.stringOp .add t ⟨#[110]⟩).run Tryd.prog w' = .ok (.string (t ++ ⟨#[110]⟩)) w' := fun w' => run_string_add w' _ _ (by omega) (by decide)
              have ha2 : ∀ w', (Op.stringOp .add t ⟨#[99]⟩).run Tryd.prog w' = .ok (.string (t ++ ⟨#[99]⟩)) w' := fun w' => run_string_add w' _ _ (by omega) (by decide)
              have hs1 : (t ++ ⟨#[110]⟩ : ByteArray).size + j = O.size := by rw [← bts_len, bts_append, List.length_append, bts_len]; show t.size + 1 + j = O.size; omega
              have hs2 : (t ++ ⟨#[99]⟩ : ByteArray).size + j = O.size := by rw [← bts_len, bts_append, List.length_append, bts_len]; show t.size + 1 + j = O.size; omega
              by_cases hz : O[j] = 99
              · have hz1 : (O[j].toNat : Int) = 99 := by rw [hz]; rfl
                have hz2 : ((O[j].toNat : Int) == 99) = true := by rw [hz1]; rfl
                have hN2 := Lib.hid (show bts (t ++ ⟨#[110]⟩) = backL (W.drop j) by rw [hst, bts_append, hz]; rfl)
                clear hst hat hz ha2 hs2
                go_wp2_with (fail)
                go_roundw
                case rel => exact ⟨j, _, by omega, rfl, rfl, hs1, hN2, by first | rfl | trivial⟩
                case measure => simp only [intOf]; omega
              · have hz1 : ¬ (O[j].toNat : Int) = 99 := fun h => hz (by apply UInt8.toNat_inj.1; show O[j].toNat = 99; omega)
                have hz2 : ((O[j].toNat : Int) == 99) = false := by simpa using hz1
                have hN2 := Lib.hid (show bts (t ++ ⟨#[99]⟩) = backL (W.drop j) by rw [hst, bts_append, flipB, if_neg hz]; rfl)
                clear hst hat hz ha1 hs1 hz1
                go_wp2_with (fail)
                go_roundw
                case rel => exact ⟨j, _, by omega, rfl, rfl, hs2, hN2, by first | rfl | trivial⟩
                case measure => simp only [intOf]; omega
            | zero =>
              have hv2 := hv.trans (show Value.int .i64 (((0 : Nat) : Int) - 1) = Value.int .i64 (-1) from rfl)
              clear hv
              subst hv2
              have hbt := ht.out
              rw [List.drop_zero] at hbt
              have cE := Lib.hid (fun w' => division_any t (by omega) w')
              rw [hbt, hTLH.out] at cE
              clear hbt
              go_wp2_with (first
                | (go_at_call 14; (with_reducible refine (cT.out _ _ _ hK5.rd).mono ?_); rintro e w6 ⟨⟨v6, rfl, ho6⟩, hb6⟩
                   obtain ⟨A6, c6, rfl, hr6⟩ := own_reads ho6 rfl
                   have hK6 := hK5.step hb6
                   clear hK5 ho6 hb6)
                | (go_at_call 10; (with_reducible refine (cE.out _).mono ?_); rintro e w7 ⟨⟨v7, rfl, ho7⟩, hb7⟩
                   obtain ⟨A7, c7, rfl, hr7⟩ := own_reads ho7 rfl
                   have hr67 := (hr6.below hb7).more hb7.size
                   have hK7 := hK6.step hb7
                   clear hK6 ho7 hb7 hr6)
                | (go_at_call 15; (with_reducible refine (same_eq rfl hr67 hr7 hTl).mono ?_); rintro e w8 ⟨rfl, hb8⟩
                   have hK8 := hK7.step hb8
                   clear hK7 hb8 hr67 hr7))
              go_loopw [23, 138] (fun f v wr => ∃ (i : Nat) (q : Bool), i ≤ n ∧ v = .int .i64 i ∧ f = .bool q ∧ Hid (fitsL c i L = q) ∧ w8 = wr) (fun _ v _ => n - (intOf v).toNat)
              case atStart => exact ⟨0, true, by omega, rfl, rfl, Lib.hid rfl, rfl⟩
              case round =>
                obtain ⟨i, q, hi, rfl, rfl, hq, hw⟩ := hrel
                subst hw
                by_cases hlt3 : i < n
                · have hlti3 : (i : Int) < n := by omega
                  have hfs := fits_step c i L
                  rw [hq.out] at hfs
                  by_cases hiq : i < ql
                  · have hiqi : (i : Int) < ql := by omega
                    obtain ⟨ad, z, rfl, _, hcell, hz⟩ := hK8.rd.at_ hiq
                    obtain ⟨x, hx, rfl⟩ := natI_at hz.out
                    have hgd2 : L.getD i 0 = x := by rw [List.getD_eq_getElem?_getD, hx]; rfl
                    have hx30 := (hdvH.out.pos x (List.mem_of_getElem? hx)).2
                    rw [hgd2] at hfs
                    clear hz hx hgd2
                    cases q with
                    | false =>
                      rw [Bool.false_and] at hfs
                      have hN2 := Lib.hid hfs
                      clear hfs
                      go_wp2_with (fail)
                      go_roundw
                      case rel => exact ⟨i + 1, false, by omega, by go_num, rfl, hN2, by first | rfl | trivial⟩
                      case measure => simp only [intOf]; omega
                    | true =>
                      by_cases hcd : (i : Int) + 1 ≤ (c : Int) - (x : Nat)
                      · have hdt : decide ((i : Int) + 1 ≤ (c : Int) - (x : Nat)) = true := decide_eq_true hcd
                        rw [hdt, Bool.and_true] at hfs
                        have hN2 := Lib.hid hfs
                        clear hfs
                        go_wp2_with (fail)
                        go_roundw
                        case rel => exact ⟨i + 1, true, by omega, by go_num, rfl, hN2, by first | rfl | trivial⟩
                        case measure => simp only [intOf]; omega
                      · have hdt : decide ((i : Int) + 1 ≤ (c : Int) - (x : Nat)) = false := decide_eq_false hcd
                        rw [hdt, Bool.and_false] at hfs
                        have hN2 := Lib.hid hfs
                        clear hfs
                        go_wp2_with (fail)
                        go_roundw
                        case rel => exact ⟨i + 1, false, by omega, by go_num, rfl, hN2, by first | rfl | trivial⟩
                        case measure => simp only [intOf]; omega
                  · have hiqi : ¬ (i : Int) < ql := by omega
                    have hgd2 : L.getD i 0 = 0 := by rw [List.getD_eq_getElem?_getD, List.getElem?_eq_none (by rw [hqlH.out]; omega)]; rfl
                    rw [hgd2] at hfs
                    clear hgd2
                    cases q with
                    | false =>
                      rw [Bool.false_and] at hfs
                      have hN2 := Lib.hid hfs
                      clear hfs
                      go_wp2_with (fail)
                      go_roundw
                      case rel => exact ⟨i + 1, false, by omega, by go_num, rfl, hN2, by first | rfl | trivial⟩
                      case measure => simp only [intOf]; omega
                    | true =>
                      by_cases hcd : (i : Int) + 1 ≤ (c : Int) - ((0 : Nat) : Int)
                      · have hdt : decide ((i : Int) + 1 ≤ (c : Int) - ((0 : Nat) : Int)) = true := decide_eq_true hcd
                        have hcd2 : decide ((i : Int) + 1 ≤ (c : Int)) = true := decide_eq_true (by omega)
                        rw [hdt, Bool.and_true] at hfs
                        have hN2 := Lib.hid hfs
                        clear hfs
                        go_wp2_with (fail)
                        go_roundw
                        case rel => exact ⟨i + 1, true, by omega, by go_num, rfl, hN2, by first | rfl | trivial⟩
                        case measure => simp only [intOf]; omega
                      · have hdt : decide ((i : Int) + 1 ≤ (c : Int) - ((0 : Nat) : Int)) = false := decide_eq_false hcd
                        have hcd2 : decide ((i : Int) + 1 ≤ (c : Int)) = false := decide_eq_false (by omega)
                        rw [hdt, Bool.and_false] at hfs
                        have hN2 := Lib.hid hfs
                        clear hfs
                        go_wp2_with (fail)
                        go_roundw
                        case rel => exact ⟨i + 1, false, by omega, by go_num, rfl, hN2, by first | rfl | trivial⟩
                        case measure => simp only [intOf]; omega
                · have hlti3 : ¬ (i : Int) < n := by omega
                  obtain rfl : i = n := by omega
                  obtain rfl : q = fq := by rw [← hq.out, hfqH.out]
                  have hM2 := Lib.hid (show ∀ a b, a ≤ 1000000 → b ≤ 1000000 → ((fun x => S x || x.sameKey (litB y nb)) (litB a b) = true ↔ MetB c i (k + 1) a b) from fun a b ha hb => by
                    rw [met_step, ← hM.out a b ha hb, hkeyH.out]
                    show (S (litB a b) || (litB a b).sameKey (litB y nb)) = true ↔ _
                    rw [Bool.or_eq_true]
                    refine or_congr Iff.rfl ⟨fun h => ?_, fun h => ?_⟩
                    · have h2 : litB a b = litB y nb := by
                        by_cases h3 : litB a b = litB y nb
                        · exact h3
                        · rw [sameKey_ne h3] at h; cases h
                      obtain ⟨rfl, rfl⟩ := lit_inj ha hb hkl.1 hkl.2 h2
                      rfl
                    · injection h with h1 h2
                      subst h1 h2
                      exact WideAt.sameKey_self (keyPair.key (key_lit ha hb)))
                  have hlq := hlaH.out
                  have hgq := hgsH.out
                  clear hq
                  cases q with
                  | true =>
                    have hle12 : le = 12 := of_decide_eq_true hlq
                    subst hle12
                    rw [if_pos rfl] at hgq
                    have hgq2 := Lib.hid hgq
                    clear hlq hgq
                    go_wp2_with (first
                      | (go_at_call 16; (with_reducible refine (cL.out _).mono ?_); rintro e w9 ⟨rfl, hb9⟩
                         have hK9 := hK8.step hb9
                         clear hb9))
                    go_roundw
                    case rel => exact ⟨k + 1, gd + 1, nn + 1, _, _, by omega, by go_num, by go_num, by omega, by omega, hgq2, hK9.set, hM2, hK9.be⟩
                    case measure => simp only [intOf]; omega
                  | false =>
                    have hle12 : ¬ le = 12 := of_decide_eq_false hlq
                    have hleb : (le == 12) = false := by simpa using hle12
                    rw [if_neg (by decide)] at hgq
                    have hgq2 := Lib.hid hgq
                    clear hlq hgq hle12
                    go_wp2_with (first
                      | (go_at_call 16; (with_reducible refine (cL.out _).mono ?_); rintro e w9 ⟨rfl, hb9⟩
                         have hK9 := hK8.step hb9
                         clear hb9))
                    go_roundw
                    case rel => exact ⟨k + 1, gd, nn + 1, _, _, by omega, by go_num, rfl, by omega, by omega, hgq2, hK9.set, hM2, hK9.be⟩
                    case measure => simp only [intOf]; omega
    · have hlti : ¬ (k : Int) < N := by omega
      obtain rfl : k = N := by omega
      rw [hG.out] at cZ
      clear hG hM
      go_wp2_with (first
        | (go_at_call 11; (with_reducible refine (cZ.out _).mono ?_); rintro e wz ⟨rfl, hwz⟩; replace hwz := hwz.symm; subst hwz)
        | (go_at_call 17; (with_reducible refine (Tw.bunchWorks_any _ (hTH.out.later hbe)).mono ?_); rintro e w9 ⟨rfl, hb9⟩; replace hbe := hbe.trans (hb9.mono hbe.size)))
      go_ret
      exact ⟨rfl, hbe⟩
end Bx
end Go.Proofs.YthbkfhhnhiplkaaDoor
