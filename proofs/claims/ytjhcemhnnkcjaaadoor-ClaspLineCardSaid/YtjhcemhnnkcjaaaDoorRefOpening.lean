/- The reference's opening: the first list of just so many rings that opens a clasp. -/
import Derived.Test.YtjhcemhnnkcjaaaDoorRefTog
import Derived.Test.YtjhcemhnnkcjaaaDoorRefWay
namespace Go.Proofs.YtjhcemhnnkcjaaaDoor
open Go.RowKit
theorem RetS_own {w w' : World} {base : Nat} {v : Value} {xs : List Int} {T : Nat} (h : OwnI w' base v xs) (hl : xs.length = T) (hb : Below w.heap.size w w') : RetS T xs w (.returned v) w' := by
  subst hl
  obtain ⟨A, c, rfl, hr⟩ := h.reads
  exact ⟨A, c, rfl, hr, hb⟩
set_option maxRecDepth 100000 in
set_option maxHeartbeats 1000000 in
theorem refOpening_any (A : Option Addr) (n c T : Nat) (xs : List Int) (y : Int) (hyT : y = (T : Int)) (w : World) (ha : RInts w w.heap.size A n xs) (hn : n ≤ 16) (hn1 : 1 ≤ n) (hx : bin xs) (hT : T ≤ 200) (ho : opensN (numS xs) T = true) :
    Calls Tryd.prog 69 #[.slice A n c, .int .i64 y] w (RetS T (openGo n T (numS xs)) w) := by
  subst hyT
  have hX := Lib.hid hx
  have hO := Lib.hid ho
  obtain ⟨tot, htot⟩ : ∃ tot, tot = openGo n T (numS xs) := ⟨_, rfl⟩
  have hTL : Hid (tot.length = T) := Lib.hid (by rw [htot, openGo_length])
  have hTOT := Lib.hid htot
  rw [← htot]
  clear hx ho htot
  go_enter Tryd.func69, Tryd.ntmps69
  go_wp2_with (fail)
  go_loopg [0, 1, 5] T (fun q u i v wr => ∃ (l : Nat) (cur zs : List Int) (A1 : Option Addr) (c1 : Nat), Hid (q = l) ∧ u = .slice A1 n c1 ∧ i = .int .i64 l ∧ RInts wr wr.heap.size A1 n cur ∧ Hid (bin cur) ∧ Hid (opensN (numS cur) l = true) ∧
      OwnI wr w.heap.size v zs ∧ Hid (zs ++ openGo n l (numS cur) = tot) ∧ Hid (Apart A1 v) ∧ Below w.heap.size w wr)
  case atStart => exact ⟨T, xs, [], A, c, Lib.hid rfl, rfl, rfl, ha, hX, hO, OwnI.nil _ _, Lib.hid (by rw [hTOT.out]; rfl), Lib.hid (fun _ _ h => by simp [Value.ownBlock] at h), Below.refl _ _⟩
  case round =>
    obtain ⟨l, cur, zs, A1, c1, hq, rfl, rfl, har, hbc, hop, hown, htt, hap, hbe⟩ := hrel
    have hlen : zs.length + l = T := by have := congrArg List.length htt.out; rw [List.length_append, openGo_length, hTL.out] at this; exact this
    rcases Nat.eq_zero_or_pos l with rfl | hpos
    · have hz : Hid (zs = tot) := Lib.hid (by have := htt.out; rwa [openGo, List.append_nil] at this)
      go_wp2_with (fail)
      go_ret
      rw [← hz.out]
      exact RetS_own hown (by omega) hbe
    · obtain ⟨t, ht⟩ : ∃ t, t = l - 1 := ⟨_, rfl⟩
      have hl1 : (l : Int) - 1 = (t : Int) := by omega
      have htl : l = t + 1 := by omega
      rw [htl] at hop htt
      have hlt' := Lib.hid htl
      have ht9 : t < 1000 := by omega
      clear ht htl
      have hst := open_stop (t := t) hbc.out (by rw [har.len]; exact hn1) hop.out
      rw [har.len] at hst
      obtain ⟨K, hK⟩ : ∃ K, K = openD n (numS cur) t := ⟨_, rfl⟩
      rw [← hK] at hst
      obtain ⟨s1, s2, s3, s4, s5⟩ := hst
      have hS2 := Lib.hid s2
      have hS3 := Lib.hid s3
      have hS4 : Hid (opensN (numS (moveS cur K)) t = true) := Lib.hid (by rw [s3]; exact s4)
      have hS5 := Lib.hid s5
      have htn : Hid ((zs ++ [(K : Int)]) ++ openGo n t (numS (moveS cur K)) = tot) := Lib.hid (by
        have := htt.out
        rw [openGo, ← hK, ← s3] at this
        rw [List.append_assoc]; exact this)
      have h16 : Hid (∀ k, numS (moveS cur k) < 65536) := Lib.hid (fun k => numS_bin16 (by rw [moveS_length, har.len]; exact hn))
      have hK16 : K ≤ 16 := by omega
      clear s2 s3 s4 s5 hK
      go_wp2_with (fail)
      go_loopw [6] (fun i w2 => ∃ k : Nat, k ≤ K ∧ i = .int .i64 k ∧ Below wr.heap.size wr w2) (fun i _ => K - (intOf i).toNat)
      case atStart => exact ⟨0, by omega, rfl, Below.refl _ _⟩
      case round =>
        rename_i w2
        obtain ⟨k, hk, rfl, hb2⟩ := hrel
        have har2 := (har.below hb2).more hb2.size
        have hbcm := Lib.hid (moveS_bin hbc.out k)
        rcases Nat.lt_or_eq_of_le hk with hlt | rfl
        · cases hc : canS cur k with
          | false =>
            have hC := Lib.hid hc
            clear hc
            go_wp2_with (first
              | (go_at_call 71
                 refine (refCan_any A1 n c1 k cur _ _ har2 hn (by omega)).mono ?_
                 rintro e w3 ⟨rfl, rfl⟩
                 rw [hC.out]))
            go_roundw
            case rel => exact ⟨k + 1, by omega, by go_num, hb2⟩
            case measure => simp [intOf]; omega
          | true =>
            have hno := Lib.hid (hS5.out k hlt hc)
            have hC := Lib.hid hc
            clear hc
            go_wp2_with (first
              | (go_at_call 71
                 refine (refCan_any A1 n c1 k cur _ _ har2 hn (by omega)).mono ?_
                 rintro e w3 ⟨rfl, rfl⟩
                 rw [hC.out])
              | (go_at_call 61
                 refine (refMoved_any A1 n c1 k cur _ har2 hn (by omega) hbc.out).mono ?_
                 rintro e w4 ⟨A4, c4, rfl, hr4, hb4⟩)
              | (go_at_call 51
                 refine (refNumber_any A4 n c4 (moveS cur k) w4 _ hr4 hn hbcm.out).mono ?_
                 rintro e w5 ⟨rfl, rfl⟩)
              | (go_at_call 72
                 refine (refOpens_any _ _ (numS (moveS cur k)) t rfl (by omega) (h16.out k) (by omega) _).mono ?_
                 rintro e w6 ⟨rfl, rfl⟩
                 rw [hno.out]))
            go_roundw
            case rel => exact ⟨k + 1, by omega, by go_num, hb2.trans (hb4.mono hb2.size)⟩
            case measure => simp [intOf]; omega
        · have hown2 := hown.callee hb2
          have hbe2 := hbe.trans (hb2.mono hbe.size)
          have _t := hn
          go_wp2_with (first
            | (go_at_call 71
               refine (refCan_any A1 n c1 k cur _ _ har2 hn (by omega)).mono ?_
               rintro e w3 ⟨rfl, rfl⟩
               rw [hS2.out])
            | (go_at_call 61
               clear _t
               refine (refMoved_any A1 n c1 k cur _ har2 hn (by omega) hbc.out).mono ?_
               rintro e w4 ⟨A4, c4, rfl, hr4, hb4⟩
               have hown4 := hown2.callee hb4
               have hbe4 := hbe2.trans (hb4.mono hbe2.size)
               have har4 := (har2.below hb4).more hb4.size)
            | (go_at_call 51
               refine (refNumber_any A4 n c4 (moveS cur k) w4 _ hr4 hn hbcm.out).mono ?_
               rintro e w5 ⟨rfl, rfl⟩)
            | (go_at_call 72
               refine (refOpens_any _ _ (numS (moveS cur k)) t rfl (by omega) (h16.out k) (by omega) _).mono ?_
               rintro e w6 ⟨rfl, rfl⟩
               rw [hS4.out])
            | (at_builtin
               refine wpList_push rfl _ _ rfl rfl (hown4.none_ (World.grownBy_alloc _ _ none)) _ 1 k rfl (Blk.new _ _ _) (by omega) (by simp; have := hbe4.size; omega) ?_
               intro g5 cap5 w7 hown5 hg5 hat5 hlt5
               have hbe5 := (hbe4.alloc hbe4.size _).grown hg5 (by simp; have := hbe4.size; omega) (fun i hi => hown4.ge hi)
               have har5 := RInts.grownNe (Reads.alloc har4 (Nat.le_refl _) _) hg5 (by simp) hap.out
               have hsz5 := hg5.size
               rw [World.size_alloc] at hsz5)
            | (go_at_call 61
               refine (refMoved_new A1 n c1 k cur w7 (har5.more (by omega)) hn s1 hbc.out).mono ?_
               rintro e w8 ⟨A8, c8, rfl, hr8, hb8, hfr8⟩))
          go_roundg t
          case rel => exact ⟨t, moveS cur k, zs ++ [(k : Int)], A8, c8, Lib.hid rfl, rfl, by go_num, hr8, Lib.hid (moveS_bin hbc.out k), hS4, by have h7 := hown5.callee hb8; exact h7, htn, Lib.hid (fun ad e h' => by have := hfr8.out ad e; simp only [Value.ownBlock, Option.some.injEq] at h'; omega), hbe5.trans (hb8.mono hbe5.size)⟩
          case measure => rw [hq.out, hlt'.out]; omega
end Go.Proofs.YtjhcemhnnkcjaaaDoor
