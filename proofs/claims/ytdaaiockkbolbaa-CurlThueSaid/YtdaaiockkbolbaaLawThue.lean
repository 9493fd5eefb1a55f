/- The law's CurlThue: a rule keeps all clear words clear if it keeps those of three letters clear. (Printed by genthue.py.) -/
import Derived.Test.YtdaaiockkbolbaaThueL
import Derived.Test.YtdaaiockkbolbaaRepl
import Derived.Test.YtdaaiockkbolbaaWorks
import Derived.Deep.CutBlock
namespace Go.Proofs.Ytdaaiockkbolbaa
open Go.RowKit
theorem str_ne {x : Word} (h : x.isEmpty = false) : (⟨x.toArray⟩ : ByteArray).toList.isEmpty = false := by
  rw [ByteArray.toList_eq]
  exact h
theorem ag_exit {ws : List ByteArray} {n k L : Nat} (hF : MadeF ws n k) (h : agS ws n L ≠ []) : agS ws n L = agS ws n 3 := by
  rcases Nat.lt_or_ge L 3 with hl | hl
  · have he : (agS ws n L).isEmpty = false := by
      cases hc : agS ws n L with
      | nil => exact absurd hc h
      | cons a l => rfl
    have := agS_stay he (3 - L)
    rw [show L + (3 - L) = 3 by omega] at this
    exact this.symm
  · have := ag_most hF (L - 3)
    rwa [show 3 + (L - 3) = L by omega] at this
set_option maxRecDepth 100000 in
set_option maxHeartbeats 4000000 in
theorem thue_at (cs : Array Value) (a b c : Nat) (hT : TwistC cs a b c) (w : World) :
    Calls Try.prog 11 #[.agg cs] w fun e w' => e = .returned (.bool true) ∧ Below w.heap.size w w' := by
  go_enter Try.func11, Try.ntmps11
  go_upto_region 4 with (first
    | (with_reducible show wpList _ _ _ (⟨_, .box 69 _, _, _, _, _⟩ :: _) _ _
       refine wpList_box_blk rfl 69 _ rfl cs rfl ?_
       intro w1 g1 hG1 hgr1 hge1
       have hb1 : Below w.heap.size w w1 := below_none (Below.refl _ _) hgr1 (Nat.le_refl _)
       clear hgr1)
    | (with_reducible show wpList _ _ _ (⟨_, .load 69 _, _, _, _, _⟩ :: _) _ _
       refine wpList_load_blk rfl 69 _ rfl g1 rfl 69 _ _ hG1 Try.underlying69 rfl (by rw [hT.size]; kernel_rfl) ?_)
    | (go_at_call 46; (with_reducible refine (made_any cs a b c hT _).mono ?_); rintro e w3 ⟨A, n, cap, ws, k, rfl, hr3, hmw, hn1, hn4, hk1, hk6, hcap, hb3⟩
       replace hb3 := hb1.trans (hb3.mono hb1.size)
       clear hG1)
    | (with_reducible show wpList _ _ _ (⟨_, .alloc 38, _, _, _, _⟩ :: _) _ _
       refine wpList_alloc_blk rfl 38 rfl _ zero_rul ?_
       intro w4 g hG4 hgr4 hge4)
    | (with_reducible show wpList _ _ _ (⟨_, .store 38 _ _, _, _, _, _⟩ :: _) _ _
       refine wpList_store_blk rfl 38 _ _ rfl g #[.slice A n cap] rfl rfl 38 _ hG4 (info_oneP _) rfl (by simp [Value.oneCell']) ?_
       intro w5 hG5 hgr5
       have hlen := hr3.len
       have hF := Lib.hid (show MadeF ws n k from ⟨hmw, hlen, hn1, hn4, hk1, hk6⟩)
       have hb4 : Below w3.heap.size w3 w4 := below_none (Below.refl _ _) hgr4 (Nat.le_refl _)
       have hb5 : Below w3.heap.size w3 w5 := below_some hb4 hgr5 hb4.size hge4
       have hk : Rk 38 w3 w5 g A n cap ws w3.heap.size := ⟨hb5, hr3.below hb5, hG5, Nat.le_refl _⟩
       have hg := hG5.cell 0
       clear hG4 hgr4 hge4 hG5 hgr5 hb4 hb5 hr3 hmw hlen))
  by_cases h4 : n = 4
  · have h4i : ((n : Int) == 4) = true := by simp [h4]
    clear h4
    go_upto_block 0 with (fail)
    go_cut [5] from 7 to 49 (fun o wx => o = .string ⟨(agS ws n 3).toArray⟩ ∧ Rk 38 w3 wx g A n cap ws w3.heap.size)
    case first =>
      go_wp2_with (fail)
      go_loopw [5, 7] (fun o v wr => ∃ L i : Nat, L + 1 = i ∧ L ≤ 5 ∧ v = .int .i64 i ∧ o = .string ⟨(agS ws n L).toArray⟩ ∧ Rk 38 w3 wr g A n cap ws w3.heap.size) (fun _ v _ => 8 - (intOf v).toNat)
      case atStart => exact ⟨0, 1, rfl, by omega, rfl, rfl, hk⟩
      case round =>
        clear hk
        obtain ⟨L, i, hLi, hLM, rfl, ho, hk⟩ := hrel
        cases he : (agS ws n L).isEmpty with
        | false =>
          have hx := Lib.hid (show agS ws n L = agS ws n 3 from ag_exit hF.out (by intro h0; rw [h0] at he; cases he))
          obtain ⟨pb, hpb⟩ : ∃ pb : ByteArray, (⟨(agS ws n L).toArray⟩ : ByteArray) = pb := ⟨_, rfl⟩
          have hpbH := Lib.hid hpb
          have hpe : pb.toList.isEmpty = false := by rw [← hpb]; exact str_ne he
          rw [hpb] at ho
          subst ho
          clear he hpb
          by_cases hlt : L < 5
          · have hlti : (i : Int) ≤ 5 := by omega
            go_wp2_with (fail)
            go_meet
            exact ⟨by rw [← hpbH.out, hx.out], hk⟩
          · have hlti : ¬ (i : Int) ≤ 5 := by omega
            go_wp2_with (fail)
            go_meet
            exact ⟨by rw [← hpbH.out, hx.out], hk⟩
        | true =>
          have h0 : agS ws n L = [] := by simpa using he
          rw [h0] at ho
          replace ho : _ = Value.string ⟨#[]⟩ := ho
          subst ho
          clear he
          by_cases hlt : L < 5
          · have hlti : (i : Int) ≤ 5 := by omega
            have h0H := Lib.hid h0
            have hcl := Lib.hid (fun w' => clears_any n hn4 i (by omega) w')
            have hll := clB_len n hn4 i
            have hp4 : 4 ^ i ≤ 4 ^ 6 := Nat.pow_le_pow_right (by omega) (by omega)
            have h46 : (4 : Nat) ^ 6 = 4096 := by decide
            have hfac := Lib.hid (clB_facts hn4 i)
            obtain ⟨l, hl⟩ : ∃ l, clB n i = l := ⟨_, rfl⟩
            have hlH := Lib.hid (show clB n (L + 1) = l by rw [hLi, hl])
            rw [hl] at hcl hll hfac
            have hll2 : l.length ≤ 4096 := by omega
            clear hl hll hp4 h46 h0
            go_wp2_with (first
              | (go_at_call 43; (with_reducible refine (hcl.out _).mono ?_); rintro e w6 ⟨v6, rfl, ho6, hb6⟩
                 obtain ⟨A6, c6, rfl, hr6⟩ := ho6.reads
                 replace hk := hk.call hb6
                 clear ho6 hb6))
            go_loopw [5, 38] (fun o v wr2 => ∃ p : Nat, p ≤ l.length ∧ v = .int .i64 p ∧ o = .string ⟨#[]⟩ ∧ Hid (∀ u ∈ l.take p, cleanS (putS ws (bts u)) = true) ∧ Rk 38 w3 wr2 g A n cap ws w3.heap.size ∧ Below w6.heap.size w6 wr2) (fun _ v _ => l.length - (intOf v).toNat)
            case atStart => exact ⟨0, by omega, rfl, rfl, Lib.hid (fun u hu => by simp at hu), hk, Below.refl _ _⟩
            case round =>
              clear hk
              obtain ⟨p, hp, rfl, rfl, hall, hk, hb7⟩ := hrel
              by_cases hpl : p < l.length
              · have hpli : (p : Int) < l.length := by omega
                obtain ⟨ad, t, rfl, hadb, hcell, ht⟩ := (hr6.later (Nat.le_refl _) hb7).at_ hpl
                obtain ⟨f1, f2, f3⟩ := hfac.out t (List.mem_of_getElem? ht.out)
                rw [bts_len] at f3
                have hrep := Lib.hid (fun (w' : World) (hB : w3.heap.size ≤ w'.heap.size) (hr : RStrs w' w3.heap.size A n ws) => lawReplaced_any A n cap ws t w' w3.heap.size hB hr hn4 f1 (by omega) (fun u hu => by have := hF.out.hm.size u hu; have := hF.out.hk; omega))
                have hpls := putS_len (K := k) (fun u hu => by have := hF.out.hm.size u hu; omega) (bts t)
                rw [bts_len] at hpls
                have hmul : t.size * k ≤ 6 * 6 := Nat.mul_le_mul (by omega) hF.out.hk
                have hbz : bts ⟨(putS ws (bts t)).toArray⟩ = putS ws (bts t) := by simp [bts]
                have htw := Lib.hid (fun w' => twice_any ⟨(putS ws (bts t)).toArray⟩ (by show (putS ws (bts t)).length ≤ 1000; omega) w')
                rw [hbz] at htw
                have htl := tw_len (putS ws (bts t))
                obtain ⟨q, hq⟩ : ∃ q, cleanS (putS ws (bts t)) = q := ⟨_, rfl⟩
                have hqH := Lib.hid hq
                rw [hq] at htl
                obtain ⟨T, hT⟩ : ∃ T, twL (putS ws (bts t)) = T := ⟨_, rfl⟩
                rw [hT] at htl htw
                obtain ⟨tn, htn⟩ : ∃ tn, T.length = tn := ⟨_, rfl⟩
                rw [htn] at htl
                have htnH := Lib.hid htn
                obtain ⟨rb, hrb⟩ : ∃ rb : ByteArray, (⟨(putS ws (bts t)).toArray⟩ : ByteArray) = rb := ⟨_, rfl⟩
                rw [hrb] at hrep htw
                clear hrb hT htn hq hpls hmul hbz f1 f2 f3
                cases q with
                | true =>
                  have htni : ¬ (0 : Int) < tn := by
                    have : tn = 0 := by simpa using htl
                    omega
                  have hallN := Lib.hid (show ∀ u ∈ l.take (p + 1), cleanS (putS ws (bts u)) = true by
                    intro u hu
                    rw [List.take_add_one, ht.out] at hu
                    rcases List.mem_append.1 hu with hu | hu
                    · exact hall.out u hu
                    · obtain rfl : u = t := by simpa using hu
                      exact hqH.out)
                  clear htl
                  go_wp2_with (first
                    | (with_reducible show wpList _ _ _ (⟨_, .load 38 _, _, _, _, _⟩ :: _) _ _
                       refine wpList_load_blk rfl 38 _ rfl g rfl 38 _ _ hk.bk Try.underlying38 rfl (info_oneP _) ?_)
                    | (go_at_call 47; (with_reducible refine (hrep.out _ hk.b hk.rs).mono ?_); rintro e w8 ⟨rfl, hb8⟩
                       replace hb7 := hb7.trans (hb8.mono hb7.size)
                       replace hk := hk.call hb8
                       clear hb8)
                    | (go_at_call 41; (with_reducible refine (htw.out _).mono ?_); rintro e w9 ⟨v9, rfl, hv9, hb9⟩
                       obtain ⟨A9, c9, rfl⟩ := hv9.form
                       rw [htnH.out]
                       replace hb7 := hb7.trans (hb9.mono hb7.size)
                       replace hk := hk.call hb9
                       clear hv9 hb9))
                  go_roundw
                  case rel => exact ⟨p + 1, by omega, by go_num, rfl, hallN, hk, hb7⟩
                  case measure => simp only [intOf]; omega
                | false =>
                  have htni : (0 : Int) < tn := by
                    have : ¬ tn = 0 := by simpa using htl
                    omega
                  have hfirst := Lib.hid (show agS ws n i = bts t by
                    rw [← hLi]
                    exact ag_first h0H.out (by rw [hlH.out]; exact ht.out) (by rw [hlH.out]; exact hall.out) hqH.out)
                  clear htl
                  go_wp2_with (first
                    | (with_reducible show wpList _ _ _ (⟨_, .load 38 _, _, _, _, _⟩ :: _) _ _
                       refine wpList_load_blk rfl 38 _ rfl g rfl 38 _ _ hk.bk Try.underlying38 rfl (info_oneP _) ?_)
                    | (go_at_call 47; (with_reducible refine (hrep.out _ hk.b hk.rs).mono ?_); rintro e w8 ⟨rfl, hb8⟩
                       replace hb7 := hb7.trans (hb8.mono hb7.size)
                       replace hk := hk.call hb8
                       clear hb8)
                    | (go_at_call 41; (with_reducible refine (htw.out _).mono ?_); rintro e w9 ⟨v9, rfl, hv9, hb9⟩
                       obtain ⟨A9, c9, rfl⟩ := hv9.form
                       rw [htnH.out]
                       replace hb7 := hb7.trans (hb9.mono hb7.size)
                       replace hk := hk.call hb9
                       clear hv9 hb9))
                  go_roundw
                  case rel => exact ⟨i, i + 1, rfl, by omega, by go_num, by rw [hfirst.out]; exact congrArg Value.string (bts_inj (by simp [bts])), hk⟩
                  case measure => simp only [intOf]; omega
              · have hpli : ¬ (p : Int) < l.length := by omega
                have hnone := Lib.hid (show agS ws n i = [] by
                  rw [← hLi]
                  refine ag_clear h0H.out ?_
                  rw [hlH.out]
                  have := hall.out
                  rwa [List.take_of_length_le (by omega)] at this)
                go_wp2_with (fail)
                go_roundw
                case rel => exact ⟨i, i + 1, rfl, by omega, by go_num, by rw [hnone.out], hk⟩
                case measure => simp only [intOf]; omega
          · have hlti : ¬ (i : Int) ≤ 5 := by omega
            have hLe : L = 5 := by omega
            have h3 := Lib.hid (show agS ws n 3 = [] by
              have := ag_most hF.out 2
              rw [← this]
              rw [hLe] at h0
              exact h0)
            clear hLe h0
            go_wp2_with (fail)
            go_meet
            exact ⟨by rw [h3.out], hk⟩
    case rest =>
      obtain ⟨rfl, hk⟩ := hcut
      have hru := made_rule hF.out
      have hkv : keepV ws = (agS ws n 3).isEmpty := by unfold keepV; rw [if_pos hru, hF.out.hl]
      have hav : agV ws = agS ws n 3 := by unfold agV; rw [if_pos hru, hF.out.hl]
      have hae : agE ws = if (agS ws n 3).isEmpty then 13 else 0 := by unfold agE; rw [if_neg (by simp [hru]), hF.out.hl]
      have hKe := fun (w' : World) (hB : w3.heap.size ≤ w'.heap.size) (hr : RStrs w' w3.heap.size A n ws) => Keeps_any A n cap ws w' w3.heap.size hB hr
      have hAg := fun (w' : World) (hB : w3.heap.size ≤ w'.heap.size) (hr : RStrs w' w3.heap.size A n ws) => Against_any A n cap ws w' w3.heap.size hB hr
      rw [hkv, hru] at hKe
      rw [hav, hae] at hAg
      have cg := hk.cell
      have hcapi : (n : Int) ≤ cap := by omega
      cases he : (agS ws n 3).isEmpty with
      | true =>
        have h3 : agS ws n 3 = [] := by simpa using he
        rw [he] at hKe
        rw [h3] at hAg ⊢
        have hKeH := Lib.hid hKe
        have hAgH := Lib.hid (show ∀ (w' : World) (_ : w3.heap.size ≤ w'.heap.size) (_ : RStrs w' w3.heap.size A n ws), Calls Try.prog 30 #[.agg #[.slice A n cap]] w' fun e w2 => e = .returned (.tuple #[.string ⟨#[]⟩, .int .i64 13]) ∧ Below w'.heap.size w' w2 from hAg)
        have h3H := Lib.hid h3
        clear hKe hAg hkv hav hae hru he h3
        go_wp2_with (first
          | (with_reducible show wpList _ _ _ (⟨_, .load 38 _, _, _, _, _⟩ :: _) _ _
             refine wpList_load_blk rfl 38 _ rfl g rfl 38 _ _ hk.bk Try.underlying38 rfl (info_oneP _) ?_)
          | (go_at_call 28; (with_reducible refine (hKeH.out _ hk.b hk.rs).mono ?_); rintro e w6 ⟨rfl, hb6⟩
             replace hk := hk.call hb6
             replace cg := hk.cell
             clear hb6)
          | (go_at_call 30; (with_reducible refine (hAgH.out _ hk.b hk.rs).mono ?_); rintro e w6 ⟨rfl, hb6⟩
             replace hk := hk.call hb6
             replace cg := hk.cell
             clear hb6))
        clear cg
        go_loopw [82] (fun v wr => ∃ i : Nat, i ≤ n ∧ v = .int .i64 i ∧ Rk 38 w3 wr g A n cap ws w3.heap.size) (fun v _ => n - (intOf v).toNat)
        case atStart => exact ⟨0, by omega, rfl, hk⟩
        case round =>
          clear hk
          obtain ⟨i, hi, rfl, hk⟩ := hrel
          by_cases hlt : i < n
          · have hlti : (i : Int) < n := by omega
            have cg := hk.cell
            obtain ⟨ad, x, rfl, hadb, hcell, hwx⟩ := hk.rs.at_ hlt
            have hicap : (i : Int) ≤ cap := by omega
            have hxs := hF.out.hm.size x (List.mem_of_getElem? hwx.out)
            have hk6 := hF.out.hk
            have htw := Lib.hid (fun w' => twice_any x (by omega) w')
            rw [made_word hF.out h3H.out hwx.out] at htw
            clear hxs hk6
            go_wp2_with (fail)
            clear cg hcell
            go_loopw [92] (fun v wr2 => ∃ j : Nat, j ≤ i ∧ v = .int .i64 j ∧ Rk 38 w3 wr2 g (some ad) n cap ws w3.heap.size) (fun v _ => i - (intOf v).toNat)
            case atStart => exact ⟨0, by omega, rfl, hk⟩
            case round =>
              clear hk
              obtain ⟨j, hj, rfl, hk⟩ := hrel
              by_cases hjl : j < i
              · have hjli : (j : Int) < i := by omega
                obtain ⟨ad2, y, hA2, hadb2, hcell2, hwy⟩ := hk.rs.at_ (show j < n by omega)
                obtain rfl : ad = ad2 := by injection hA2
                have hne : (x.toList == y.toList) = false := by
                  have := made_apart hF.out h3H.out hwx.out hwy.out hjl
                  rw [ByteArray.toList_eq, ByteArray.toList_eq, beq_eq_false_iff_ne]
                  intro e
                  exact this (bts_inj e)
                go_wp2_with (fail)
                go_roundw
                case rel => exact ⟨j + 1, by omega, by go_num, hk⟩
                case measure => simp only [intOf]; omega
              · have hjli : ¬ (j : Int) < i := by omega
                go_wp2_with (first
                  | (go_at_call 41; (with_reducible refine (htw.out _).mono ?_); rintro e w9 ⟨v9, rfl, hv9, hb9⟩
                     obtain ⟨A9, c9, rfl⟩ := hv9.form
                     rw [List.length_nil]
                     replace hk := hk.call hb9
                     clear hv9 hb9))
                go_roundw
                case rel => exact ⟨i + 1, by omega, by go_num, hk⟩
                case measure => simp only [intOf]; omega
          · have hlti : ¬ (i : Int) < n := by omega
            go_wp2_with (first
              | (go_at_call 12; (with_reducible refine (works_any _).mono ?_); rintro e w9 ⟨rfl, hb9⟩; replace hk := hk.call hb9; clear hb9))
            go_ret
            exact ⟨rfl, hb3.trans (hk.be.mono hb3.size)⟩
      | false =>
        have h3 : agS ws n 3 ≠ [] := by
          intro h0
          rw [h0] at he
          cases he
        have hpr := made_proves hF.out h3
        obtain ⟨_, _, hple, _⟩ := (ag_proof (ws := ws) hn4 3).resolve_left h3
        rw [he] at hKe hAg
        obtain ⟨x, hx⟩ : ∃ x, agS ws n 3 = x := ⟨_, rfl⟩
        rw [hx] at he hple hpr hAg ⊢
        obtain ⟨pb, hpb⟩ : ∃ pb : ByteArray, (⟨x.toArray⟩ : ByteArray) = pb := ⟨_, rfl⟩
        have hpe : pb.toList.isEmpty = false := by rw [← hpb]; exact str_ne he
        have hpbx : bts pb = x := by rw [← hpb]; simp [bts]
        have hps : (pb.size : Int) ≤ 3 := by rw [← bts_len, hpbx]; omega
        rw [hpb] at hAg ⊢
        have hPr := Lib.hid (show ∀ (w' : World) (_ : w3.heap.size ≤ w'.heap.size) (_ : RStrs w' w3.heap.size A n ws), Calls Try.prog 32 #[.agg #[.slice A n cap], .string pb] w' fun e w2 => e = .returned (.int .i64 0) ∧ Below w'.heap.size w' w2 from fun w' h1 h2 => by
          have := Proves_any A n cap ws pb w' w3.heap.size h1 h2
          rwa [hpbx, hpr] at this)
        have hKeH := Lib.hid hKe
        have hAgH := Lib.hid (show ∀ (w' : World) (_ : w3.heap.size ≤ w'.heap.size) (_ : RStrs w' w3.heap.size A n ws), Calls Try.prog 30 #[.agg #[.slice A n cap]] w' fun e w2 => e = .returned (.tuple #[.string pb, .int .i64 0]) ∧ Below w'.heap.size w' w2 from hAg)
        clear hKe hAg hkv hav hae hru he h3 hple hpr hx hpb hpbx
        go_wp2_with (first
          | (with_reducible show wpList _ _ _ (⟨_, .load 38 _, _, _, _, _⟩ :: _) _ _
             refine wpList_load_blk rfl 38 _ rfl g rfl 38 _ _ hk.bk Try.underlying38 rfl (info_oneP _) ?_)
          | (go_at_call 28; (with_reducible refine (hKeH.out _ hk.b hk.rs).mono ?_); rintro e w6 ⟨rfl, hb6⟩
             replace hk := hk.call hb6
             replace cg := hk.cell
             clear hb6)
          | (go_at_call 30; (with_reducible refine (hAgH.out _ hk.b hk.rs).mono ?_); rintro e w6 ⟨rfl, hb6⟩
             replace hk := hk.call hb6
             replace cg := hk.cell
             clear hb6)
          | (go_at_call 32; (with_reducible refine (hPr.out _ hk.b hk.rs).mono ?_); rintro e w6 ⟨rfl, hb6⟩
             replace hk := hk.call hb6
             replace cg := hk.cell
             clear hb6)
          | (go_at_call 12; (with_reducible refine (works_any _).mono ?_); rintro e w9 ⟨rfl, hb9⟩; replace hk := hk.call hb9; clear hb9))
        go_ret
        exact ⟨rfl, hb3.trans (hk.be.mono hb3.size)⟩
  · have h4i : ((n : Int) == 4) = false := by simp; omega
    clear h4
    go_upto_block 0 with (fail)
    go_cut [5] from 7 to 49 (fun o wx => o = .string ⟨(agS ws n 3).toArray⟩ ∧ Rk 38 w3 wx g A n cap ws w3.heap.size)
    case first =>
      go_wp2_with (fail)
      go_loopw [5, 7] (fun o v wr => ∃ L i : Nat, L + 1 = i ∧ L ≤ 6 ∧ v = .int .i64 i ∧ o = .string ⟨(agS ws n L).toArray⟩ ∧ Rk 38 w3 wr g A n cap ws w3.heap.size) (fun _ v _ => 8 - (intOf v).toNat)
      case atStart => exact ⟨0, 1, rfl, by omega, rfl, rfl, hk⟩
      case round =>
        clear hk
        obtain ⟨L, i, hLi, hLM, rfl, ho, hk⟩ := hrel
        cases he : (agS ws n L).isEmpty with
        | false =>
          have hx := Lib.hid (show agS ws n L = agS ws n 3 from ag_exit hF.out (by intro h0; rw [h0] at he; cases he))
          obtain ⟨pb, hpb⟩ : ∃ pb : ByteArray, (⟨(agS ws n L).toArray⟩ : ByteArray) = pb := ⟨_, rfl⟩
          have hpbH := Lib.hid hpb
          have hpe : pb.toList.isEmpty = false := by rw [← hpb]; exact str_ne he
          rw [hpb] at ho
          subst ho
          clear he hpb
          by_cases hlt : L < 6
          · have hlti : (i : Int) ≤ 6 := by omega
            go_wp2_with (fail)
            go_meet
            exact ⟨by rw [← hpbH.out, hx.out], hk⟩
          · have hlti : ¬ (i : Int) ≤ 6 := by omega
            go_wp2_with (fail)
            go_meet
            exact ⟨by rw [← hpbH.out, hx.out], hk⟩
        | true =>
          have h0 : agS ws n L = [] := by simpa using he
          rw [h0] at ho
          replace ho : _ = Value.string ⟨#[]⟩ := ho
          subst ho
          clear he
          by_cases hlt : L < 6
          · have hlti : (i : Int) ≤ 6 := by omega
            have h0H := Lib.hid h0
            have hcl := Lib.hid (fun w' => clears_any n hn4 i (by omega) w')
            have hll := clB_len n hn4 i
            have hp4 : 4 ^ i ≤ 4 ^ 6 := Nat.pow_le_pow_right (by omega) (by omega)
            have h46 : (4 : Nat) ^ 6 = 4096 := by decide
            have hfac := Lib.hid (clB_facts hn4 i)
            obtain ⟨l, hl⟩ : ∃ l, clB n i = l := ⟨_, rfl⟩
            have hlH := Lib.hid (show clB n (L + 1) = l by rw [hLi, hl])
            rw [hl] at hcl hll hfac
            have hll2 : l.length ≤ 4096 := by omega
            clear hl hll hp4 h46 h0
            go_wp2_with (first
              | (go_at_call 43; (with_reducible refine (hcl.out _).mono ?_); rintro e w6 ⟨v6, rfl, ho6, hb6⟩
                 obtain ⟨A6, c6, rfl, hr6⟩ := ho6.reads
                 replace hk := hk.call hb6
                 clear ho6 hb6))
            go_loopw [5, 38] (fun o v wr2 => ∃ p : Nat, p ≤ l.length ∧ v = .int .i64 p ∧ o = .string ⟨#[]⟩ ∧ Hid (∀ u ∈ l.take p, cleanS (putS ws (bts u)) = true) ∧ Rk 38 w3 wr2 g A n cap ws w3.heap.size ∧ Below w6.heap.size w6 wr2) (fun _ v _ => l.length - (intOf v).toNat)
            case atStart => exact ⟨0, by omega, rfl, rfl, Lib.hid (fun u hu => by simp at hu), hk, Below.refl _ _⟩
            case round =>
              clear hk
              obtain ⟨p, hp, rfl, rfl, hall, hk, hb7⟩ := hrel
              by_cases hpl : p < l.length
              · have hpli : (p : Int) < l.length := by omega
                obtain ⟨ad, t, rfl, hadb, hcell, ht⟩ := (hr6.later (Nat.le_refl _) hb7).at_ hpl
                obtain ⟨f1, f2, f3⟩ := hfac.out t (List.mem_of_getElem? ht.out)
                rw [bts_len] at f3
                have hrep := Lib.hid (fun (w' : World) (hB : w3.heap.size ≤ w'.heap.size) (hr : RStrs w' w3.heap.size A n ws) => lawReplaced_any A n cap ws t w' w3.heap.size hB hr hn4 f1 (by omega) (fun u hu => by have := hF.out.hm.size u hu; have := hF.out.hk; omega))
                have hpls := putS_len (K := k) (fun u hu => by have := hF.out.hm.size u hu; omega) (bts t)
                rw [bts_len] at hpls
                have hmul : t.size * k ≤ 6 * 6 := Nat.mul_le_mul (by omega) hF.out.hk
                have hbz : bts ⟨(putS ws (bts t)).toArray⟩ = putS ws (bts t) := by simp [bts]
                have htw := Lib.hid (fun w' => twice_any ⟨(putS ws (bts t)).toArray⟩ (by show (putS ws (bts t)).length ≤ 1000; omega) w')
                rw [hbz] at htw
                have htl := tw_len (putS ws (bts t))
                obtain ⟨q, hq⟩ : ∃ q, cleanS (putS ws (bts t)) = q := ⟨_, rfl⟩
                have hqH := Lib.hid hq
                rw [hq] at htl
                obtain ⟨T, hT⟩ : ∃ T, twL (putS ws (bts t)) = T := ⟨_, rfl⟩
                rw [hT] at htl htw
                obtain ⟨tn, htn⟩ : ∃ tn, T.length = tn := ⟨_, rfl⟩
                rw [htn] at htl
                have htnH := Lib.hid htn
                obtain ⟨rb, hrb⟩ : ∃ rb : ByteArray, (⟨(putS ws (bts t)).toArray⟩ : ByteArray) = rb := ⟨_, rfl⟩
                rw [hrb] at hrep htw
                clear hrb hT htn hq hpls hmul hbz f1 f2 f3
                cases q with
                | true =>
                  have htni : ¬ (0 : Int) < tn := by
                    have : tn = 0 := by simpa using htl
                    omega
                  have hallN := Lib.hid (show ∀ u ∈ l.take (p + 1), cleanS (putS ws (bts u)) = true by
                    intro u hu
                    rw [List.take_add_one, ht.out] at hu
                    rcases List.mem_append.1 hu with hu | hu
                    · exact hall.out u hu
                    · obtain rfl : u = t := by simpa using hu
                      exact hqH.out)
                  clear htl
                  go_wp2_with (first
                    | (with_reducible show wpList _ _ _ (⟨_, .load 38 _, _, _, _, _⟩ :: _) _ _
                       refine wpList_load_blk rfl 38 _ rfl g rfl 38 _ _ hk.bk Try.underlying38 rfl (info_oneP _) ?_)
                    | (go_at_call 47; (with_reducible refine (hrep.out _ hk.b hk.rs).mono ?_); rintro e w8 ⟨rfl, hb8⟩
                       replace hb7 := hb7.trans (hb8.mono hb7.size)
                       replace hk := hk.call hb8
                       clear hb8)
                    | (go_at_call 41; (with_reducible refine (htw.out _).mono ?_); rintro e w9 ⟨v9, rfl, hv9, hb9⟩
                       obtain ⟨A9, c9, rfl⟩ := hv9.form
                       rw [htnH.out]
                       replace hb7 := hb7.trans (hb9.mono hb7.size)
                       replace hk := hk.call hb9
                       clear hv9 hb9))
                  go_roundw
                  case rel => exact ⟨p + 1, by omega, by go_num, rfl, hallN, hk, hb7⟩
                  case measure => simp only [intOf]; omega
                | false =>
                  have htni : (0 : Int) < tn := by
                    have : ¬ tn = 0 := by simpa using htl
                    omega
                  have hfirst := Lib.hid (show agS ws n i = bts t by
                    rw [← hLi]
                    exact ag_first h0H.out (by rw [hlH.out]; exact ht.out) (by rw [hlH.out]; exact hall.out) hqH.out)
                  clear htl
                  go_wp2_with (first
                    | (with_reducible show wpList _ _ _ (⟨_, .load 38 _, _, _, _, _⟩ :: _) _ _
                       refine wpList_load_blk rfl 38 _ rfl g rfl 38 _ _ hk.bk Try.underlying38 rfl (info_oneP _) ?_)
                    | (go_at_call 47; (with_reducible refine (hrep.out _ hk.b hk.rs).mono ?_); rintro e w8 ⟨rfl, hb8⟩
                       replace hb7 := hb7.trans (hb8.mono hb7.size)
                       replace hk := hk.call hb8
                       clear hb8)
                    | (go_at_call 41; (with_reducible refine (htw.out _).mono ?_); rintro e w9 ⟨v9, rfl, hv9, hb9⟩
                       obtain ⟨A9, c9, rfl⟩ := hv9.form
                       rw [htnH.out]
                       replace hb7 := hb7.trans (hb9.mono hb7.size)
                       replace hk := hk.call hb9
                       clear hv9 hb9))
                  go_roundw
                  case rel => exact ⟨i, i + 1, rfl, by omega, by go_num, by rw [hfirst.out]; exact congrArg Value.string (bts_inj (by simp [bts])), hk⟩
                  case measure => simp only [intOf]; omega
              · have hpli : ¬ (p : Int) < l.length := by omega
                have hnone := Lib.hid (show agS ws n i = [] by
                  rw [← hLi]
                  refine ag_clear h0H.out ?_
                  rw [hlH.out]
                  have := hall.out
                  rwa [List.take_of_length_le (by omega)] at this)
                go_wp2_with (fail)
                go_roundw
                case rel => exact ⟨i, i + 1, rfl, by omega, by go_num, by rw [hnone.out], hk⟩
                case measure => simp only [intOf]; omega
          · have hlti : ¬ (i : Int) ≤ 6 := by omega
            have hLe : L = 6 := by omega
            have h3 := Lib.hid (show agS ws n 3 = [] by
              have := ag_most hF.out 3
              rw [← this]
              rw [hLe] at h0
              exact h0)
            clear hLe h0
            go_wp2_with (fail)
            go_meet
            exact ⟨by rw [h3.out], hk⟩
    case rest =>
      obtain ⟨rfl, hk⟩ := hcut
      have hru := made_rule hF.out
      have hkv : keepV ws = (agS ws n 3).isEmpty := by unfold keepV; rw [if_pos hru, hF.out.hl]
      have hav : agV ws = agS ws n 3 := by unfold agV; rw [if_pos hru, hF.out.hl]
      have hae : agE ws = if (agS ws n 3).isEmpty then 13 else 0 := by unfold agE; rw [if_neg (by simp [hru]), hF.out.hl]
      have hKe := fun (w' : World) (hB : w3.heap.size ≤ w'.heap.size) (hr : RStrs w' w3.heap.size A n ws) => Keeps_any A n cap ws w' w3.heap.size hB hr
      have hAg := fun (w' : World) (hB : w3.heap.size ≤ w'.heap.size) (hr : RStrs w' w3.heap.size A n ws) => Against_any A n cap ws w' w3.heap.size hB hr
      rw [hkv, hru] at hKe
      rw [hav, hae] at hAg
      have cg := hk.cell
      have hcapi : (n : Int) ≤ cap := by omega
      cases he : (agS ws n 3).isEmpty with
      | true =>
        have h3 : agS ws n 3 = [] := by simpa using he
        rw [he] at hKe
        rw [h3] at hAg ⊢
        have hKeH := Lib.hid hKe
        have hAgH := Lib.hid (show ∀ (w' : World) (_ : w3.heap.size ≤ w'.heap.size) (_ : RStrs w' w3.heap.size A n ws), Calls Try.prog 30 #[.agg #[.slice A n cap]] w' fun e w2 => e = .returned (.tuple #[.string ⟨#[]⟩, .int .i64 13]) ∧ Below w'.heap.size w' w2 from hAg)
        have h3H := Lib.hid h3
        clear hKe hAg hkv hav hae hru he h3
        go_wp2_with (first
          | (with_reducible show wpList _ _ _ (⟨_, .load 38 _, _, _, _, _⟩ :: _) _ _
             refine wpList_load_blk rfl 38 _ rfl g rfl 38 _ _ hk.bk Try.underlying38 rfl (info_oneP _) ?_)
          | (go_at_call 28; (with_reducible refine (hKeH.out _ hk.b hk.rs).mono ?_); rintro e w6 ⟨rfl, hb6⟩
             replace hk := hk.call hb6
             replace cg := hk.cell
             clear hb6)
          | (go_at_call 30; (with_reducible refine (hAgH.out _ hk.b hk.rs).mono ?_); rintro e w6 ⟨rfl, hb6⟩
             replace hk := hk.call hb6
             replace cg := hk.cell
             clear hb6))
        clear cg
        go_loopw [82] (fun v wr => ∃ i : Nat, i ≤ n ∧ v = .int .i64 i ∧ Rk 38 w3 wr g A n cap ws w3.heap.size) (fun v _ => n - (intOf v).toNat)
        case atStart => exact ⟨0, by omega, rfl, hk⟩
        case round =>
          clear hk
          obtain ⟨i, hi, rfl, hk⟩ := hrel
          by_cases hlt : i < n
          · have hlti : (i : Int) < n := by omega
            have cg := hk.cell
            obtain ⟨ad, x, rfl, hadb, hcell, hwx⟩ := hk.rs.at_ hlt
            have hicap : (i : Int) ≤ cap := by omega
            have hxs := hF.out.hm.size x (List.mem_of_getElem? hwx.out)
            have hk6 := hF.out.hk
            have htw := Lib.hid (fun w' => twice_any x (by omega) w')
            rw [made_word hF.out h3H.out hwx.out] at htw
            clear hxs hk6
            go_wp2_with (fail)
            clear cg hcell
            go_loopw [92] (fun v wr2 => ∃ j : Nat, j ≤ i ∧ v = .int .i64 j ∧ Rk 38 w3 wr2 g (some ad) n cap ws w3.heap.size) (fun v _ => i - (intOf v).toNat)
            case atStart => exact ⟨0, by omega, rfl, hk⟩
            case round =>
              clear hk
              obtain ⟨j, hj, rfl, hk⟩ := hrel
              by_cases hjl : j < i
              · have hjli : (j : Int) < i := by omega
                obtain ⟨ad2, y, hA2, hadb2, hcell2, hwy⟩ := hk.rs.at_ (show j < n by omega)
                obtain rfl : ad = ad2 := by injection hA2
                have hne : (x.toList == y.toList) = false := by
                  have := made_apart hF.out h3H.out hwx.out hwy.out hjl
                  rw [ByteArray.toList_eq, ByteArray.toList_eq, beq_eq_false_iff_ne]
                  intro e
                  exact this (bts_inj e)
                go_wp2_with (fail)
                go_roundw
                case rel => exact ⟨j + 1, by omega, by go_num, hk⟩
                case measure => simp only [intOf]; omega
              · have hjli : ¬ (j : Int) < i := by omega
                go_wp2_with (first
                  | (go_at_call 41; (with_reducible refine (htw.out _).mono ?_); rintro e w9 ⟨v9, rfl, hv9, hb9⟩
                     obtain ⟨A9, c9, rfl⟩ := hv9.form
                     rw [List.length_nil]
                     replace hk := hk.call hb9
                     clear hv9 hb9))
                go_roundw
                case rel => exact ⟨i + 1, by omega, by go_num, hk⟩
                case measure => simp only [intOf]; omega
          · have hlti : ¬ (i : Int) < n := by omega
            go_wp2_with (first
              | (go_at_call 12; (with_reducible refine (works_any _).mono ?_); rintro e w9 ⟨rfl, hb9⟩; replace hk := hk.call hb9; clear hb9))
            go_ret
            exact ⟨rfl, hb3.trans (hk.be.mono hb3.size)⟩
      | false =>
        have h3 : agS ws n 3 ≠ [] := by
          intro h0
          rw [h0] at he
          cases he
        have hpr := made_proves hF.out h3
        obtain ⟨_, _, hple, _⟩ := (ag_proof (ws := ws) hn4 3).resolve_left h3
        rw [he] at hKe hAg
        obtain ⟨x, hx⟩ : ∃ x, agS ws n 3 = x := ⟨_, rfl⟩
        rw [hx] at he hple hpr hAg ⊢
        obtain ⟨pb, hpb⟩ : ∃ pb : ByteArray, (⟨x.toArray⟩ : ByteArray) = pb := ⟨_, rfl⟩
        have hpe : pb.toList.isEmpty = false := by rw [← hpb]; exact str_ne he
        have hpbx : bts pb = x := by rw [← hpb]; simp [bts]
        have hps : (pb.size : Int) ≤ 3 := by rw [← bts_len, hpbx]; omega
        rw [hpb] at hAg ⊢
        have hPr := Lib.hid (show ∀ (w' : World) (_ : w3.heap.size ≤ w'.heap.size) (_ : RStrs w' w3.heap.size A n ws), Calls Try.prog 32 #[.agg #[.slice A n cap], .string pb] w' fun e w2 => e = .returned (.int .i64 0) ∧ Below w'.heap.size w' w2 from fun w' h1 h2 => by
          have := Proves_any A n cap ws pb w' w3.heap.size h1 h2
          rwa [hpbx, hpr] at this)
        have hKeH := Lib.hid hKe
        have hAgH := Lib.hid (show ∀ (w' : World) (_ : w3.heap.size ≤ w'.heap.size) (_ : RStrs w' w3.heap.size A n ws), Calls Try.prog 30 #[.agg #[.slice A n cap]] w' fun e w2 => e = .returned (.tuple #[.string pb, .int .i64 0]) ∧ Below w'.heap.size w' w2 from hAg)
        clear hKe hAg hkv hav hae hru he h3 hple hpr hx hpb hpbx
        go_wp2_with (first
          | (with_reducible show wpList _ _ _ (⟨_, .load 38 _, _, _, _, _⟩ :: _) _ _
             refine wpList_load_blk rfl 38 _ rfl g rfl 38 _ _ hk.bk Try.underlying38 rfl (info_oneP _) ?_)
          | (go_at_call 28; (with_reducible refine (hKeH.out _ hk.b hk.rs).mono ?_); rintro e w6 ⟨rfl, hb6⟩
             replace hk := hk.call hb6
             replace cg := hk.cell
             clear hb6)
          | (go_at_call 30; (with_reducible refine (hAgH.out _ hk.b hk.rs).mono ?_); rintro e w6 ⟨rfl, hb6⟩
             replace hk := hk.call hb6
             replace cg := hk.cell
             clear hb6)
          | (go_at_call 32; (with_reducible refine (hPr.out _ hk.b hk.rs).mono ?_); rintro e w6 ⟨rfl, hb6⟩
             replace hk := hk.call hb6
             replace cg := hk.cell
             clear hb6)
          | (go_at_call 12; (with_reducible refine (works_any _).mono ?_); rintro e w9 ⟨rfl, hb9⟩; replace hk := hk.call hb9; clear hb9))
        go_ret
        exact ⟨rfl, hb3.trans (hk.be.mono hb3.size)⟩
end Go.Proofs.Ytdaaiockkbolbaa
