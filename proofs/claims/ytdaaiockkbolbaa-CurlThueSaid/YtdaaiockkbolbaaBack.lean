/- Back. (Printed by genback.py.) -/
import Derived.Test.YtdaaiockkbolbaaBackK
namespace Go.Proofs.Ytdaaiockkbolbaa
open Go.RowKit
theorem IsBuilderF.belowT {T e : TypeId} {b : Nat} {bs : List Value} {w w' : World} (h : Lib.IsBuilderF T e b b bs w) (hb : Below w.heap.size w w') : Lib.IsBuilderF T e b b bs w' := by
  have key : ∀ p, Lib.BuilderAtF T e b b p bs w → Lib.BuilderAtF T e b b p bs w' := by
    rintro p ⟨h1, v, hv, ho, hne⟩
    have hlt : b < w.heap.size := by
      rcases Nat.lt_or_ge b w.heap.size with h | h
      · exact h
      · rw [Array.getElem?_eq_none h] at hv; cases hv
    refine ⟨h1, v, (hb.block b hlt).trans hv, ⟨ho.1, ?_⟩, hne⟩
    rcases ho.2 with h0 | ⟨g, cap, cur, fz, rfl, hbg, hg, r⟩
    · exact .inl h0
    · refine .inr ⟨g, cap, cur, fz, rfl, hbg, (hb.block g ?_).trans hg, r⟩
      rcases Nat.lt_or_ge g w.heap.size with h | h
      · exact h
      · rw [Array.getElem?_eq_none h] at hg; cases hg
  exact h.elim (fun x => .inl (key _ x)) (fun x => .inr (key _ x))
set_option maxRecDepth 100000 in
set_option maxHeartbeats 4000000 in
theorem Back_any (A : Option Addr) (n c : Nat) (ws : List ByteArray) (s : ByteArray) (w : World) (B : Nat) (hB : B ≤ w.heap.size) (hr : RStrs w B A n ws) :
    Calls Try.prog 38 #[.agg #[.slice A n c], .string s] w fun e w' => e = .returned (.tuple #[.string ⟨(backV ws (bts s)).toArray⟩, .int .i64 (backE ws (bts s))]) ∧ Below w.heap.size w w' := by
  have hlen := hr.len
  by_cases h0 : askE ws (bts s) = 0
  · obtain ⟨hr0, hc0⟩ := askE_zero h0
    obtain ⟨z1, z2, z3, z4, _⟩ := ruleE_zero hr0
    obtain ⟨y1, y2⟩ := chkW_zero hc0
    have h0H := Lib.hid h0
    have hn1 : 1 ≤ n := by omega
    have hn4 : n ≤ 4 := by omega
    obtain ⟨K, hK⟩ : ∃ K, (ws.headD ⟨#[]⟩).size = K := ⟨_, rfl⟩
    rw [hK] at z3 z4
    have hKH := Lib.hid hK
    obtain ⟨x, rfl⟩ : ∃ x : Word, s = ⟨x.toArray⟩ := ⟨bts s, by cases s; simp [bts]⟩
    have hbx : bts ⟨x.toArray⟩ = x := rfl
    have hxs : (⟨x.toArray⟩ : ByteArray).size = x.length := rfl
    rw [hbx] at h0H h0 y1 ⊢
    obtain ⟨hm1, hm2⟩ := mod_facts x.length K
    obtain ⟨M, hM⟩ : ∃ M, x.length % K = M := ⟨_, rfl⟩
    rw [hM] at hm1 hm2
    have hKi : (1 : Int) ≤ K := by omega
    have hK0 : ((K : Int) == 0) = false := by simp; omega
    by_cases hM0 : M = 0
    · have hMb : ((M : Int) != 0) = false := by simp [hM0]
      obtain ⟨m, hm⟩ : ∃ m, x.length / K = m := ⟨_, rfl⟩
      have hxm : x.length = m * K := by have := Nat.div_add_mod x.length K; rw [hm, hM, hM0, Nat.mul_comm] at this; omega
      obtain ⟨R, hR⟩ : ∃ R, backR ws x = R := ⟨_, rfl⟩
      have hRH := Lib.hid (show (backL ws K m x).map (([] : Word) ++ ·) = R by rw [← hR, backR, hK, hm]; simp)
      have hE0 := Lib.hid (show backE ws x = if R.isNone then 12 else 0 by rw [backE, if_neg (by simpa using h0), hK, hM, if_neg (by simpa using hM0), hR])
      have hV0 := Lib.hid (show backV ws x = if R.isNone then [] else R.getD [] by
        rw [backV, hE0.out, hR]
        cases R <;> rfl)
      have hm6 : m ≤ 600 := by
        have : m * 1 ≤ m * K := Nat.mul_le_mul_left _ z3
        omega
      clear h0 hr0 hc0 hK hm hR
      go_enter Try.func38, Try.ntmps38
      go_wp2_with (first
        | (with_reducible show wpList _ _ _ (⟨_, .box 38 _, _, _, _, _⟩ :: _) _ _
           refine wpList_box_blk rfl 38 _ rfl #[.slice A n c] rfl ?_
           intro w1 g hG hgr hge
           have hk := Rk.box hB hr hG hgr
           have cg := hk.cell
           have hg := hk.bk.lt
           have hRB := hk.b
           clear hG hgr hge)
        | (with_reducible show wpList _ _ _ (⟨_, .load 38 _, _, _, _, _⟩ :: _) _ _
           refine wpList_load_blk rfl 38 _ rfl g rfl 38 #[.slice A n c] _ hk.bk Try.underlying38 rfl (info_oneP _) ?_)
        | (go_at_call 77; refine (asked_any A n c ws _ _ B hRB hk.rs).mono ?_; rintro e w' ⟨rfl, hb'⟩; rw [hbx, h0H.out]
           replace hk := hk.call hb'
           have cg := hk.cell
           have hg := hk.bk.lt
           have hRB := hk.b
           clear hb')
        | (go_at_call 74; refine (size_any A n c ws _ B hRB hk.rs (by omega)).mono ?_; rintro e w' ⟨rfl, hb'⟩; rw [hKH.out]
           replace hk := hk.call hb'
           have cg := hk.cell
           have hg := hk.bk.lt
           have hRB := hk.b
           clear hb')
        | (with_reducible show wpList _ _ _ (⟨_, .alloc 81, _, _, _, _⟩ :: _) _ _
           refine wpList_alloc_blk rfl 81 rfl _ zero_bld ?_
           intro w2 b hBb hgr2 hge2
           have hgb : g < b := by omega
           have hwb : w.heap.size ≤ b := by have := hk.be.size; omega
           have hk2 : Rk 38 w w2 g A n c ws B := ⟨below_none hk.be hgr2 hk.be.size, hk.rs.keep (fun q hq => World.cell?_of_block (hgr2.block q.block (by omega) (by simp))), hk.bk.none_ hgr2, hk.bl⟩
           have hbl2 := hBb.lt
           have hBF0 : Lib.IsBuilderF 81 5 b b [] w2 := Lib.IsBuilderF.of (Or.inl ⟨Nat.le_refl _, _, hBb, World.ownsRow_nil _ _ _ _, by simp [Value.ownBlock]⟩)
           clear hgr2 hBb hk))
      have hx6 : x.length ≤ 600 := by omega
      simp only [Act.put, List.setIfInBounds_toArray, List.set_cons_succ, List.set_cons_zero]
      go_loopw [1] (fun v wr => ∃ (m' : Nat) (y out : Word), v = .string ⟨y.toArray⟩ ∧ y.length = m' * K ∧ m' ≤ 600 ∧ y.length ≤ 600 ∧ out.length + m' ≤ 600 ∧ Hid ((backL ws K m' y).map (out ++ ·) = R) ∧ Lib.IsBuilderF 81 5 b b (Lib.byteCells out) wr ∧ b < wr.heap.size ∧ Rk 38 w wr g A n c ws B) (fun v _ => match v with | .string s => s.size | _ => 0)
      case atStart => exact ⟨m, x, [], rfl, hxm, hm6, hx6, by simpa using hm6, hRH, hBF0, hbl2, hk2⟩
      case round =>
        obtain ⟨m', y, out, rfl, hym, hm', hy6, hom, hL, hBF, hbl, hk⟩ := hrel
        have cg := hk.cell
        have hRB := hk.b
        have hg : g < wr.heap.size := hk.bk.lt
        have hys : (⟨y.toArray⟩ : ByteArray).size = y.length := rfl
        cases m' with
        | zero =>
          have hy0 : y = [] := List.eq_nil_of_length_eq_zero (by rw [hym, Nat.zero_mul])
          subst hy0
          have hRs : R = some out := by rw [← hL.out]; simp [backL]
          have hE := Lib.hid (show backE ws x = 0 by rw [hE0.out, hRs]; rfl)
          have hV := Lib.hid (show backV ws x = out by rw [hV0.out, hRs]; rfl)
          clear hRs hL
          have hbl' : b ≤ wr.heap.size := by omega
          go_wp2_with (first
            | (go_at_call 58; refine (Try.Builder_String_any_k b b _ wr hBF hbl').mono ?_; rintro e w3 ⟨rfl, hB3, hbl3, hok3⟩))
          go_ret2
          exact ⟨by rw [hE.out, hV.out]; rfl, hk.be.trans (hbl3.mono hwb)⟩
        | succ m1 =>
          have hyK : K ≤ y.length := by rw [hym, Nat.succ_mul]; omega
          have hye : y.isEmpty = false := by cases y with
            | nil => simp at hyK; omega
            | cons a r => rfl
          have hKy : (K : Int) ≤ y.length := by omega
          have hs1 : (⟨y.toArray⟩ : ByteArray).extract 0 K = ⟨(y.take K).toArray⟩ := bts_inj (by rw [bts_extract]; rfl)
          have hs2 : (⟨y.toArray⟩ : ByteArray).extract K y.length = ⟨(y.drop K).toArray⟩ := bts_inj (by rw [bts_extract]; show ((y.take y.length).drop K) = y.drop K; rw [List.take_length])
          rcases idx_way ⟨(y.take K).toArray⟩ ws 0 with hi | ⟨k, hi, hkn⟩
          · have hi' : Lib.idxOfS ws ⟨(y.take K).toArray⟩ = -1 := hi
            have hRn := back_none hL.out hi'
            have hE := Lib.hid (show backE ws x = 12 by rw [hE0.out, hRn]; rfl)
            have hV := Lib.hid (show backV ws x = [] by rw [hV0.out, hRn]; rfl)
            have hiH := Lib.hid hi'
            clear hi hi' hRn hL hym hm1 hm2 hM hxm
            go_wp2_with (fail)
            go_region_held3 (fun w' => w'.cell? ⟨g, 0, none⟩ = some (.slice A n c) ∧ Rk 38 w w' g A n c ws B)
              (first | assumption | exact ⟨cg, hk⟩ | exact ⟨cg, hk.drew⟩)
              (first
                | (go_at_call 74; refine (size_any A n c ws _ B hk.drew.b hk.drew.rs (by omega)).mono ?_; rintro e w3 ⟨rfl, hb3⟩; rw [hKH.out]
                   have hS3 : w3.cell? ⟨g, 0, none⟩ = some (.slice A n c) ∧ Rk 38 w w3 g A n c ws B := ⟨(hk.drew.call hb3).cell, hk.drew.call hb3⟩
                   have hBF4 := IsBuilderF.belowT (w := wr.drew) hBF hb3
                   have hbl4 : b < w3.heap.size := (by have := hb3.size; have : wr.drew.heap.size = wr.heap.size := rfl; omega))
                | (go_at_call 78; refine (index_any A n c ws _ w3 B hS3.2.rs (by omega)).mono ?_; rintro e w4 ⟨rfl, rfl⟩; rw [hiH.out]))
            replace hk := hS3.2
            go_wp2_with (fail)
            go_ret2
            exact ⟨by rw [hE.out, hV.out]; rfl, hk.be⟩
          · have hi' : Lib.idxOfS ws ⟨(y.take K).toArray⟩ = (k : Int) := by rw [Lib.idxOfS, hi, Nat.zero_add]
            have hN := Lib.hid (back_some hL.out hi')
            have hdl : (y.drop K).length = m1 * K := by rw [List.length_drop, hym, Nat.succ_mul]; omega
            have hdl6 : (y.drop K).length < y.length := by rw [List.length_drop]; omega
            have hiH := Lib.hid hi'
            have hk4 : k < 4 := by omega
            have hk4i : (k : Int) < 4 := by omega
            have hkneg : ¬ (k : Int) < 0 := by omega
            have hkat : ∀ h, (abcd[k]'h) = (97 + k).toUInt8 := fun h => by
              match k, hk4 with
              | 0, _ => rfl
              | 1, _ => rfl
              | 2, _ => rfl
              | 3, _ => rfl
            have hkatH := Lib.hid hkat
            have hol : (Lib.byteCells out).length + 1 ≤ 140737488355328 := by rw [Lib.byteCells_length]; omega
            clear hi hi' hL hym hm1 hm2 hM hxm hkat
            go_wp2_with (fail)
            go_region_held3 (fun w' => w'.cell? ⟨g, 0, none⟩ = some (.slice A n c) ∧ Rk 38 w w' g A n c ws B)
              (first | assumption | exact ⟨cg, hk⟩ | exact ⟨cg, hk.drew⟩)
              (first
                | (go_at_call 74; refine (size_any A n c ws _ B hk.drew.b hk.drew.rs (by omega)).mono ?_; rintro e w3 ⟨rfl, hb3⟩; rw [hKH.out]
                   have hS3 : w3.cell? ⟨g, 0, none⟩ = some (.slice A n c) ∧ Rk 38 w w3 g A n c ws B := ⟨(hk.drew.call hb3).cell, hk.drew.call hb3⟩
                   have hBF4 := IsBuilderF.belowT (w := wr.drew) hBF hb3
                   have hbl4 : b < w3.heap.size := (by have := hb3.size; have : wr.drew.heap.size = wr.heap.size := rfl; omega))
                | (go_at_call 78; refine (index_any A n c ws _ w3 B hS3.2.rs (by omega)).mono ?_; rintro e w4 ⟨rfl, rfl⟩; rw [hiH.out]))
            replace hk := hS3.2
            replace cg := hk.cell
            replace hRB := hk.b
            go_wp2_with (first
              | (go_at_call 57; refine (Try.Builder_WriteByte_k b b _ _ _ hBF4 hol (Nat.le_of_lt hbl4)).mono ?_; rintro e w5 ⟨rfl, hB5, hbl5, hok5⟩
                 replace hk : Rk 38 w w5 g A n c ws B := ⟨hk.be.trans (hbl5.mono hwb), hk.rs.keep (fun q hq => hbl5.cell (by omega)), (hbl5.block g hgb).trans hk.bk, hk.bl⟩
                 have hb5 : b < w5.heap.size := by (have := hbl5.size; omega)
                 have hg := hk.bk.lt
                 have cg := hk.cell
                 have hRB := hk.b
                 clear hbl5 hok5)
              | (with_reducible show wpList _ _ _ (⟨_, .load 38 _, _, _, _, _⟩ :: _) _ _
                 refine wpList_load_blk rfl 38 _ rfl g rfl 38 #[.slice A n c] _ hk.bk Try.underlying38 rfl (info_oneP _) ?_)
              | (go_at_call 74; refine (size_any A n c ws _ B hRB hk.rs (by omega)).mono ?_; rintro e w7 ⟨rfl, hb7⟩; rw [hKH.out]
                 replace hk := hk.call hb7
                 have cg := hk.cell
                 have hg := hk.bk.lt
                 have hRB := hk.b
                 have hBF6 := IsBuilderF.belowT (Or.inr hB5) hb7
                 have hb6 : b < w7.heap.size := (by have := hb7.size; omega)
                 clear hb7))
            have hBF7 : Lib.IsBuilderF 81 5 b b (Lib.byteCells (out ++ [(97 + k).toUInt8])) w7 := by
              have e : Lib.byteCells (out ++ [(97 + k).toUInt8]) = Lib.byteCells out ++ [.int .u8 (((abcd[k]'hk4).toNat : Nat) : Int)] := by
                rw [hkatH.out hk4]; simp [Lib.byteCells]
              rw [e]; exact hBF6
            exact ⟨⟨m1, y.drop K, out ++ [(97 + k).toUInt8], rfl, hdl, by omega, by omega, by simp; omega, hN, hBF7, hb6, hk⟩, hdl6⟩
    · have hMb : ((M : Int) != 0) = true := by simp; omega
      have hE := Lib.hid (show backE ws x = 5 by rw [backE, if_neg (by simpa using h0), hK, hM, if_pos hM0])
      have hV := Lib.hid (show backV ws x = [] by rw [backV, if_neg (by rw [hE.out]; decide)])
      clear h0 hr0 hc0 hK
      go_enter Try.func38, Try.ntmps38
      go_wp2_with (first
        | (with_reducible show wpList _ _ _ (⟨_, .box 38 _, _, _, _, _⟩ :: _) _ _
           refine wpList_box_blk rfl 38 _ rfl #[.slice A n c] rfl ?_
           intro w1 g hG hgr hge
           have hk := Rk.box hB hr hG hgr
           have cg := hk.cell
           have hg := hk.bk.lt
           have hRB := hk.b
           clear hG hgr hge)
        | (with_reducible show wpList _ _ _ (⟨_, .load 38 _, _, _, _, _⟩ :: _) _ _
           refine wpList_load_blk rfl 38 _ rfl g rfl 38 #[.slice A n c] _ hk.bk Try.underlying38 rfl (info_oneP _) ?_)
        | (go_at_call 77; refine (asked_any A n c ws _ _ B hRB hk.rs).mono ?_; rintro e w' ⟨rfl, hb'⟩; rw [hbx, h0H.out]
           replace hk := hk.call hb'
           have cg := hk.cell
           have hg := hk.bk.lt
           have hRB := hk.b
           clear hb')
        | (go_at_call 74; refine (size_any A n c ws _ B hRB hk.rs (by omega)).mono ?_; rintro e w' ⟨rfl, hb'⟩; rw [hKH.out]
           replace hk := hk.call hb'
           have cg := hk.cell
           have hg := hk.bk.lt
           have hRB := hk.b
           clear hb'))
      go_ret2
      exact ⟨by rw [hE.out, hV.out]; rfl, hk.be⟩
  · have hE := Lib.hid (show backE ws (bts s) = askE ws (bts s) by rw [backE, if_pos h0])
    have hV := Lib.hid (show backV ws (bts s) = [] by rw [backV, if_neg (by rw [hE.out]; exact h0)])
    have h0b : (askE ws (bts s) != 0) = true := by simpa using h0
    clear h0
    go_enter Try.func38, Try.ntmps38
    go_wp2_with (first
      | (with_reducible show wpList _ _ _ (⟨_, .box 38 _, _, _, _, _⟩ :: _) _ _
         refine wpList_box_blk rfl 38 _ rfl #[.slice A n c] rfl ?_
         intro w1 g hG hgr hge
         have hk := Rk.box hB hr hG hgr
         have cg := hk.cell
         have hg := hk.bk.lt
         have hRB := hk.b
         clear hG hgr hge)
      | (with_reducible show wpList _ _ _ (⟨_, .load 38 _, _, _, _, _⟩ :: _) _ _
         refine wpList_load_blk rfl 38 _ rfl g rfl 38 #[.slice A n c] _ hk.bk Try.underlying38 rfl (info_oneP _) ?_)
      | (go_at_call 77; refine (asked_any A n c ws _ _ B hRB hk.rs).mono ?_; rintro e w' ⟨rfl, hb'⟩
         replace hk := hk.call hb'
         have cg := hk.cell
         have hg := hk.bk.lt
         have hRB := hk.b
         clear hb'))
    go_ret2
    exact ⟨by rw [hE.out, hV.out]; rfl, hk.be⟩
end Go.Proofs.Ytdaaiockkbolbaa
