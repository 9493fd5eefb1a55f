/- The reference's Back. (Printed by genrefback.py.) -/
import Derived.Test.YtdaaiockkbolbaaBackK
namespace Go.Proofs.Ytdaaiockkbolbaa
open Go.RowKit
set_option maxRecDepth 100000 in
set_option maxHeartbeats 4000000 in
theorem refBack_any (A : Option Addr) (n c : Nat) (ws : List ByteArray) (s : ByteArray) (w : World) (B : Nat) (hB : B ≤ w.heap.size) (hr : RStrs w B A n ws) :
    Calls Try.prog 39 #[.agg #[.slice A n c], .string s] w fun e w' => e = .returned (.tuple #[.string ⟨(backV ws (bts s)).toArray⟩, .int .i64 (backE ws (bts s))]) ∧ Below w.heap.size w w' := by
  have hlen := hr.len
  by_cases h0 : askE ws (bts s) = 0
  · obtain ⟨hr0, hc0⟩ := askE_zero h0
    obtain ⟨z1, z2, z3, z4, _⟩ := ruleE_zero hr0
    obtain ⟨y1, y2⟩ := chkW_zero hc0
    have h0H := Lib.hid h0
    have hn1 : 1 ≤ n := by omega
    have hn4 : n ≤ 4 := by omega
    have hni : (0 : Int) < n := by omega
    obtain ⟨ad, s0, rfl, hab, hcell0, hs0⟩ := hr.first hn1
    obtain ⟨K, hK⟩ : ∃ K, s0.size = K := ⟨_, rfl⟩
    have hK' : (ws.headD ⟨#[]⟩).size = K := by rw [hs0.out, hK]
    rw [hK'] at z3 z4
    obtain ⟨x, rfl⟩ : ∃ x : Word, s = ⟨x.toArray⟩ := ⟨bts s, by cases s; simp [bts]⟩
    have hbx : bts ⟨x.toArray⟩ = x := rfl
    have hxs : (⟨x.toArray⟩ : ByteArray).size = x.length := rfl
    rw [hbx] at h0H h0 y1 ⊢
    obtain ⟨hm1, hm2⟩ := mod_facts x.length K
    obtain ⟨M, hM⟩ : ∃ M, x.length % K = M := ⟨_, rfl⟩
    rw [hM] at hm1 hm2
    have hKi : (1 : Int) ≤ K := by omega
    have hK0 : ((K : Int) == 0) = false := by simp; omega
    by_cases hM0 : M = 0
    · have hMb : ((M : Int) != 0) = false := by simp [hM0]
      obtain ⟨m, hm⟩ : ∃ m, x.length / K = m := ⟨_, rfl⟩
      have hxm : x.length = m * K := by have := Nat.div_add_mod x.length K; rw [hm, hM, hM0, Nat.mul_comm] at this; omega
      obtain ⟨R, hR⟩ : ∃ R, backR ws x = R := ⟨_, rfl⟩
      have hRH := Lib.hid (show (backL ws K m (x.drop 0)).map (([] : Word) ++ ·) = R by rw [← hR, backR, hK', hm]; simp)
      have hE0 := Lib.hid (show backE ws x = if R.isNone then 12 else 0 by rw [backE, if_neg (by simpa using h0), hK', hM, if_neg (by simpa using hM0), hR])
      have hV0 := Lib.hid (show backV ws x = if R.isNone then [] else R.getD [] by
        rw [backV, hE0.out, hR]
        cases R <;> rfl)
      have hm6 : m ≤ 600 := by
        have : m * 1 ≤ m * K := Nat.mul_le_mul_left _ z3
        omega
      have hxmH := Lib.hid (show 0 + m * K = x.length by omega)
      have hlenH := Lib.hid hlen
      clear h0 hr0 hc0 hK' hm hR hxm hlen
      go_enter Try.func39, Try.ntmps39
      go_wp2_with (first
        | (with_reducible show wpList _ _ _ (⟨_, .box 40 _, _, _, _, _⟩ :: _) _ _
           refine wpList_box_blk rfl 40 _ rfl #[.slice (some ad) n c] rfl ?_
           intro w1 g hG hgr hge
           have hk := Rk.box hB hr hG hgr
           have cg := hk.cell
           have hg := hk.bk.lt
           have hRB := hk.b
           have hc0 := (hk.be.cell (p := ad) (by omega)).trans hcell0
           clear hG hgr hge)
        | (with_reducible show wpList _ _ _ (⟨_, .load 40 _, _, _, _, _⟩ :: _) _ _
           refine wpList_load_blk rfl 40 _ rfl g rfl 40 #[.slice (some ad) n c] _ hk.bk Try.underlying40 rfl (info_oneR _) ?_)
        | (go_at_call 79; refine (ruled_any _ n c ws _ _ B hRB hk.rs).mono ?_; rintro e w' ⟨rfl, hb'⟩; rw [hbx, h0H.out]
           replace hk := hk.call hb'
           have cg := hk.cell
           have hg := hk.bk.lt
           have hRB := hk.b
           have hc0 := (hk.be.cell (p := ad) (by omega)).trans hcell0
           clear hb'))
      clear hm1 hm2 hM
      go_loopw [8, 9] (fun o v wr => ∃ (a m' : Nat) (out : Word), v = .int .i64 a ∧ o = .string ⟨out.toArray⟩ ∧ Hid (a + m' * K = x.length) ∧ a ≤ x.length ∧ out.length + m' ≤ 600 ∧ Hid ((backL ws K m' (x.drop a)).map (out ++ ·) = R) ∧ Rk 40 w wr g (some ad) n c ws B) (fun _ v _ => x.length - (intOf v).toNat)
      case atStart => exact ⟨0, m, [], rfl, rfl, hxmH, by omega, by simpa using hm6, hRH, hk⟩
      case round =>
        obtain ⟨a, m', out, rfl, rfl, ham, hax, hom, hL, hk⟩ := hrel
        have cg := hk.cell
        cases m' with
        | zero =>
          have hae : a = x.length := by have := ham.out; omega
          have hRs : R = some out := by rw [← hL.out]; simp [backL]
          have hE := Lib.hid (show backE ws x = 0 by rw [hE0.out, hRs]; rfl)
          have hV := Lib.hid (show backV ws x = out by rw [hV0.out, hRs]; rfl)
          have hai : ¬ (a : Int) < x.length := by omega
          clear hRs hL
          go_wp2_with (fail)
          go_ret2
          exact ⟨by rw [hE.out, hV.out]; rfl, hk.be⟩
        | succ m1 =>
          obtain ⟨e, he⟩ : ∃ e, a + K = e := ⟨_, rfl⟩
          have ham1 := ham.out
          rw [Nat.succ_mul] at ham1
          have ham2 := Lib.hid (show e + m1 * K = x.length by omega)
          have hex : e ≤ x.length := by omega
          have hai : (a : Int) < x.length := by omega
          have hei : (a : Int) + K = e := by omega
          have hae : a ≤ e := by omega
          have hexi : (e : Int) ≤ x.length := by omega
          have haei : (a : Int) ≤ e := by omega
          obtain ⟨ch, hch⟩ : ∃ ch : ByteArray, (⟨((x.drop a).take K).toArray⟩ : ByteArray) = ch := ⟨_, rfl⟩
          have hs1 : (⟨x.toArray⟩ : ByteArray).extract a e = ch := by
            rw [← hch]
            refine bts_inj ?_
            rw [bts_extract]
            show (x.take e).drop a = (x.drop a).take K
            rw [List.drop_take, ← he, Nat.add_sub_cancel_left]
          obtain ⟨J, hJ⟩ : ∃ J, Lib.idxOfS ws ch = J := ⟨_, rfl⟩
          have hJ0 := Lib.hid (show Lib.idxFromS (ws.drop 0) ch 0 = J from hJ)
          have hnone := Lib.hid (show J = -1 → R = none from fun h => back_none hL.out (by rw [hch, hJ, h]))
          have hsome := Lib.hid (show ∀ k : Nat, J = k → (backL ws K m1 (x.drop e)).map ((out ++ [(97 + k).toUInt8]) ++ ·) = R from fun k h => by
            have := back_some (k := k) hL.out (by rw [hch, hJ, h])
            rwa [List.drop_drop, he] at this)
          have hoL : out.length ≤ 600 := by omega
          clear ham1 he hch hJ hL
          go_wp2_with (fail)
          go_loopw [10] (fun v wr => ∃ k : Nat, k ≤ n ∧ v = .int .i64 k ∧ Hid (Lib.idxFromS (ws.drop k) ch k = J) ∧ Rk 40 w wr g (some ad) n c ws B) (fun v _ => n - (intOf v).toNat)
          case atStart => exact ⟨0, by omega, rfl, hJ0, hk⟩
          case round =>
            obtain ⟨k, hkn, rfl, hJk, hk⟩ := hrel
            have cg := hk.cell
            by_cases hlt : k < n
            · have hlti : (k : Int) < n := by omega
              obtain ⟨ad', t, had, hadb, hcell, hwt⟩ := hk.rs.at_ hlt
              obtain rfl : ad = ad' := by simpa using had
              have hst := idx_step (x := ch) hwt.out
              rw [hJk.out] at hst
              have hbq := beq_str t ch
              by_cases het : t = ch
              · have hN := Lib.hid (show J = (k : Int) by rw [hst, if_pos het])
                rw [decide_eq_true het.symm] at hbq
                have hbq2 : (t.toList != ch.toList) = false := by rw [bne, hbq]; rfl
                have hS := Lib.hid (hsome.out k hN.out)
                obtain ⟨j, hj⟩ : ∃ j, k + 1 = j := ⟨_, rfl⟩
                have hji : (k : Int) + 1 = j := by omega
                have hj4 : (j : Int) ≤ 4 := by omega
                have hkj : k ≤ j := by omega
                have hone := abcd_one (i := k) (by omega) hj
                have hkn2 : ((k : Int) == n) = false := by simp; omega
                obtain ⟨y, hy⟩ : ∃ y : ByteArray, (⟨#[(97 + k).toUInt8]⟩ : ByteArray) = y := ⟨_, rfl⟩
                have hys : y.size ≤ 1 := by rw [← hy]; exact Nat.le_refl 1
                have hcat := Lib.hid (show (⟨out.toArray⟩ : ByteArray) ++ y = ⟨(out ++ [(97 + k).toUInt8]).toArray⟩ by rw [← hy, mk_append])
                rw [hy] at hone
                have hoz : (⟨out.toArray⟩ : ByteArray).size = out.length := rfl
                clear hst het hj hy had
                have hw64 : IntKind.i64.wrap (e : Int) = e := IntWalk.i64_in _ (by omega)
                go_wp2_with (fail)
                go_quiet (fail)
                clear hw64
                replace hk := hk.drewN nq
                generalize wr.drewN nq = wq at hk ⊢
                replace cg := hk.cell
                go_wp2_with (fail)
                exact ⟨⟨e, m1, out ++ [(97 + k).toUInt8], rfl, by rw [hcat.out], ham2, hex, by simp; omega, hS, hk⟩, by simp only [intOf]; omega⟩
              · have hN := Lib.hid (show Lib.idxFromS (ws.drop (k + 1)) ch (k + 1) = J by rw [hst, if_neg het])
                rw [decide_eq_false (fun h => het h.symm)] at hbq
                have hbq2 : (t.toList != ch.toList) = true := by rw [bne, hbq]; rfl
                clear hst het had
                have hw64 : IntKind.i64.wrap (e : Int) = e := IntWalk.i64_in _ (by omega)
                go_wp2_with (fail)
                go_quiet (fail)
                clear hw64
                replace hk := hk.drewN nq
                generalize wr.drewN nq = wq at hk ⊢
                replace cg := hk.cell
                go_wp2_with (fail)
                go_roundw
                case rel => exact ⟨k + 1, by omega, by go_num, hN, hk⟩
                case measure => simp only [intOf]; omega
            · have hlti : ¬ (k : Int) < n := by omega
              have hltd : decide ((k : Int) < n) = false := by simp; omega
              have hltd2 : decide (k < n) = false := by simp; omega
              have hkn2 : ((k : Int) == n) = true := by simp; omega
              have hRn := hnone.out (by rw [← hJk.out, List.drop_of_length_le (by rw [hlenH.out]; omega)]; rfl)
              have hE := Lib.hid (show backE ws x = 12 by rw [hE0.out, hRn]; rfl)
              have hV := Lib.hid (show backV ws x = [] by rw [hV0.out, hRn]; rfl)
              clear hRn
              go_wp2_with (fail)
              go_quiet (fail)
              replace hk := hk.drewN nq
              generalize wr.drewN nq = wq at hk ⊢
              replace cg := hk.cell
              go_wp2_with (fail)
              go_ret2
              exact ⟨by rw [hE.out, hV.out]; rfl, hk.be⟩
    · have hMb : ((M : Int) != 0) = true := by simp; omega
      have hE := Lib.hid (show backE ws x = 5 by rw [backE, if_neg (by simpa using h0), hK', hM, if_pos hM0])
      have hV := Lib.hid (show backV ws x = [] by rw [backV, if_neg (by rw [hE.out]; decide)])
      clear h0 hr0 hc0 hK'
      go_enter Try.func39, Try.ntmps39
      go_wp2_with (first
        | (with_reducible show wpList _ _ _ (⟨_, .box 40 _, _, _, _, _⟩ :: _) _ _
           refine wpList_box_blk rfl 40 _ rfl #[.slice (some ad) n c] rfl ?_
           intro w1 g hG hgr hge
           have hk := Rk.box hB hr hG hgr
           have cg := hk.cell
           have hg := hk.bk.lt
           have hRB := hk.b
           have hc0 := (hk.be.cell (p := ad) (by omega)).trans hcell0
           clear hG hgr hge)
        | (with_reducible show wpList _ _ _ (⟨_, .load 40 _, _, _, _, _⟩ :: _) _ _
           refine wpList_load_blk rfl 40 _ rfl g rfl 40 #[.slice (some ad) n c] _ hk.bk Try.underlying40 rfl (info_oneR _) ?_)
        | (go_at_call 79; refine (ruled_any _ n c ws _ _ B hRB hk.rs).mono ?_; rintro e w' ⟨rfl, hb'⟩; rw [hbx, h0H.out]
           replace hk := hk.call hb'
           have cg := hk.cell
           have hg := hk.bk.lt
           have hRB := hk.b
           have hc0 := (hk.be.cell (p := ad) (by omega)).trans hcell0
           clear hb'))
      go_ret2
      exact ⟨by rw [hE.out, hV.out]; rfl, hk.be⟩
  · have hE := Lib.hid (show backE ws (bts s) = askE ws (bts s) by rw [backE, if_pos h0])
    have hV := Lib.hid (show backV ws (bts s) = [] by rw [backV, if_neg (by rw [hE.out]; exact h0)])
    have h0b : (askE ws (bts s) != 0) = true := by simpa using h0
    have h0c : (askE ws (bts s) == 0) = false := by simpa using h0
    clear h0
    go_enter Try.func39, Try.ntmps39
    go_wp2_with (first
      | (with_reducible show wpList _ _ _ (⟨_, .box 40 _, _, _, _, _⟩ :: _) _ _
         refine wpList_box_blk rfl 40 _ rfl #[.slice A n c] rfl ?_
         intro w1 g hG hgr hge
         have hk := Rk.box hB hr hG hgr
         have cg := hk.cell
         have hg := hk.bk.lt
         have hRB := hk.b
         clear hG hgr hge)
      | (with_reducible show wpList _ _ _ (⟨_, .load 40 _, _, _, _, _⟩ :: _) _ _
         refine wpList_load_blk rfl 40 _ rfl g rfl 40 #[.slice A n c] _ hk.bk Try.underlying40 rfl (info_oneR _) ?_)
      | (go_at_call 79; refine (ruled_any _ n c ws _ _ B hRB hk.rs).mono ?_; rintro e w' ⟨rfl, hb'⟩
         replace hk := hk.call hb'
         have cg := hk.cell
         have hg := hk.bk.lt
         have hRB := hk.b
         clear hb'))
    go_ret2
    exact ⟨by rw [hE.out, hV.out]; rfl, hk.be⟩
end Go.Proofs.Ytdaaiockkbolbaa
