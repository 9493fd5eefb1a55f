/- The law ClaspLeads, walked: it returns true. -/
import Derived.Test.YtjhcemhnnkcjaaaDoorSets
import Derived.Deep.CutRange
namespace Go.Proofs.YtjhcemhnnkcjaaaDoor
open Go.RowKit
/-- a slice of bytes that reads as a list -/
abbrev RBytes (w : World) (B : Nat) (A : Option Addr) (n : Nat) (bs : List Nat) : Prop := Reads w B 1 A n (bs.map fun b : Nat => Value.int .u8 (b : Int))
theorem RBytes.at_ {w : World} {B n k : Nat} {A : Option Addr} {bs : List Nat} (h : RBytes w B A n bs) (hb : ∀ b ∈ bs, b < 256) (hk : k < n) :
    ∃ ad x, A = some ad ∧ ad.block < B ∧ w.cell? (ad.add k) = some (.int .u8 (x : Nat)) ∧ x < 256 := by
  obtain ⟨ad, u, e, hlt, hx, hc⟩ := Reads.at_ h hk
  rw [List.getElem?_map] at hx
  obtain ⟨b, hb1, rfl⟩ := Option.map_eq_some_iff.1 hx
  exact ⟨ad, b, e, hlt, hc, hb b (List.mem_of_getElem? hb1)⟩
set_option maxRecDepth 100000 in
set_option maxHeartbeats 16000000 in
theorem leads_law (x one two : Nat) (hx : x < 256) (h1 : one < 4294967296) (h2 : two < 4294967296) (A : Option Addr) (m c : Nat) (bs : List Nat) (w : World) (ha : RBytes w w.heap.size A m bs) (hbs : ∀ b ∈ bs, b < 256) (hm : m ≤ maxLen) (hT : Tab w) :
    Calls Tryd.prog 10 #[.int .u8 x, .int .u32 one, .int .u32 two, .slice A m c] w fun e w' => e = .returned (.bool true) ∧ Below w.heap.size w w' := by
  unfold maxLen at hm
  have hr : (x : Int).tmod 6 = ((x % 6 : Nat) : Int) := by rw [Int.tmod_eq_emod_of_nonneg (by omega)]; omega
  obtain ⟨d, hd⟩ : ∃ d, d = x % 6 := ⟨_, rfl⟩
  rw [← hd] at hr
  have hd6 : d < 6 := by omega
  clear hd
  obtain ⟨n, hn⟩ : ∃ n, n = 1 + d := ⟨_, rfl⟩
  have hn1 : (1 : Int) + d = (n : Int) := by omega
  have hn2 : 1 ≤ n := by omega
  have hn3 : n ≤ 6 := by omega
  clear hn
  obtain ⟨P, Q, hP, hQ, hQ1, hQ2, hM⟩ := mask_let (k := n) (by omega)
  clear hQ1 hQ2
  have hma := hM one h1
  have hmb := hM two h2
  clear hM
  have hp : 0 < 2 ^ n := Nat.pow_pos (by omega)
  have hla : one % 2 ^ n < 2 ^ n := Nat.mod_lt _ hp
  have hlb : two % 2 ^ n < 2 ^ n := Nat.mod_lt _ hp
  obtain ⟨a, hae⟩ : ∃ a, a = one % 2 ^ n := ⟨_, rfl⟩
  obtain ⟨b, hbe⟩ : ∃ b, b = two % 2 ^ n := ⟨_, rfl⟩
  rw [← hae] at hma hla
  rw [← hbe] at hmb hlb
  have hLA := Lib.hid hla
  have hLB := Lib.hid hlb
  clear hp hla hlb hae hbe
  go_enter Tryd.func10, Tryd.ntmps10
  go_wp2_with (fail)
  go_quiet (fail)
  go_wp2_with (fail)
  clear hma hmb hP hQ
  -- the loop: now (slot 12), want (13), way (14), the counter (35)
  go_loopw [12, 13, 14, 35] (fun u e v i wr => ∃ (j now : Nat) (er : Int) (zs : List Int), j ≤ m ∧ j ≤ 40 ∧ i = .int .i64 j ∧ u = .int .u32 now ∧ e = .int .i64 er ∧ now < 64 ∧ Hid (now < 2 ^ n) ∧ OwnI wr w.heap.size v zs ∧ Hid (zs.length = j) ∧
      Hid (leadF (bitS n a) zs = (bitS n now, er)) ∧ Below w.heap.size w wr) (fun _ _ _ i _ => m - (intOf i).toNat)
  case atStart => exact ⟨0, a, 0, [], by omega, by omega, rfl, rfl, rfl, by have := hLA.out; have : 2 ^ n ≤ 2 ^ 6 := Nat.pow_le_pow_right (by omega) hn3; omega, hLA, OwnI.nil _ _, Lib.hid rfl, Lib.hid rfl, below_drewN (Below.refl _ _) _⟩
  case round =>
    obtain ⟨j, now, er, zs, hj, hj40, rfl, rfl, rfl, hnow, hN, hown, hzl, hF, hbe⟩ := hrel
    by_cases hlt : j < m ∧ j < 40
    · obtain ⟨hlt, h40⟩ := hlt
      obtain ⟨ad, y, rfl, _, hcell, hy⟩ := RBytes.at_ (Reads.below ha hbe) hbs hlt
      have hty : (y : Int).tmod ((n : Int) + 2) = ((y % (n + 2) : Nat) : Int) := by rw [show (n : Int) + 2 = ((n + 2 : Nat) : Int) by omega, Int.tmod_eq_emod_of_nonneg (by omega)]; rfl
      have hyl : y % (n + 2) < n + 2 := Nat.mod_lt _ (by omega)
      obtain ⟨t, ht⟩ : ∃ t, t = y % (n + 2) := ⟨_, rfl⟩
      rw [← ht] at hty hyl
      clear ht
      go_upto_region 10 with (fail)
      go_cut [53] from 48 to 53 (fun v wx => ∃ q : Bool, v = .bool q ∧ wx = wr)
      case first =>
        by_cases hy40 : (40 : Int) ≤ y
        · by_cases he : er = 0
          · subst he
            go_wp2_with (fail)
            go_meet
            exact ⟨_, rfl, rfl⟩
          · have he0 : (er == 0) = false := by simpa using he
            go_wp2_with (fail)
            go_meet
            exact ⟨_, rfl, rfl⟩
        · go_wp2_with (fail)
          go_meet
          exact ⟨_, rfl, rfl⟩
      case rest =>
      obtain ⟨q, rfl, rfl⟩ := hcut
      go_upto_if 53 with (fail)
      go_cut [17] from 54 to 68 (fun v wx => ∃ k : Int, -1 ≤ k ∧ k ≤ n ∧ v = .int .i64 k ∧ Below wc.heap.size wc wx)
      case first =>
        cases q
        case true =>
          rcases Nat.mod_two_eq_zero_or_one y with e2 | e2
          · have hy2 : (y : Int).tmod 2 = 0 := by rw [Int.tmod_eq_emod_of_nonneg (by omega)]; omega
            go_wp2_with (fail)
            go_meet
            exact ⟨0, by omega, by omega, rfl, Below.refl _ _⟩
          · have hy2 : (y : Int).tmod 2 = 1 := by rw [Int.tmod_eq_emod_of_nonneg (by omega)]; omega
            go_wp2_with (fail)
            go_loopw [17] (fun v wx => ∃ k : Nat, 1 ≤ k ∧ k ≤ n ∧ v = .int .i64 k ∧ Below wc.heap.size wc wx) (fun v _ => n - (intOf v).toNat)
            case atStart => exact ⟨1, by omega, by omega, rfl, Below.refl _ _⟩
            case round =>
              obtain ⟨k, hk1, hk2, rfl, hbx⟩ := hrel
              by_cases hkn : (k : Int) < (n : Int) - 1
              · cases hf : freeB now k with
                | true =>
                  have hf := Lib.hid hf
                  go_wp2_with (first
                    | (go_at_call 42
                       refine (free_any now k (by omega) (by omega) _ _ rfl rfl _).mono ?_
                       rintro e w2 ⟨rfl, hb2⟩
                       rw [hf.out]))
                  go_meet
                  exact ⟨k, by omega, by omega, rfl, hbx.trans (hb2.mono hbx.size)⟩
                | false =>
                  have hf := Lib.hid hf
                  go_wp2_with (first
                    | (go_at_call 42
                       refine (free_any now k (by omega) (by omega) _ _ rfl rfl _).mono ?_
                       rintro e w2 ⟨rfl, hb2⟩
                       rw [hf.out]))
                  go_roundw
                  case rel => exact ⟨k + 1, by omega, by omega, by go_num, hbx.trans (hb2.mono hbx.size)⟩
                  case measure => simp [intOf]; omega
              · go_wp2_with (fail)
                go_meet
                exact ⟨k, by omega, by omega, rfl, hbx⟩
        case false =>
          go_wp2_with (fail)
          go_meet
          exact ⟨(t : Int) - 1, by omega, by omega, rfl, Below.refl _ _⟩
      case rest =>
        obtain ⟨k, hk1, hk2, rfl, hbw⟩ := hcut
        have hownc := hown.callee hbw
        have hbec := hbe.trans (hbw.mono hbe.size)
        have hst := Lib.hid (lead_step (k := k) hF.out)
        by_cases he : er = 0
        · subst he
          by_cases hkk : k < 0 ∨ (n : Int) ≤ k
          · have hst2 := Lib.hid (hst.out.trans (by rw [if_neg (by simp), if_pos hkk]))
            by_cases hk0 : k < 0
            · go_wp2_with (first
            | (at_builtin
               refine wpList_push rfl _ _ rfl rfl (hownc.none_ (World.grownBy_alloc wc _ none)) wc.heap.size 1 k rfl (Blk.new _ _ _) (by rw [hzl.out]; omega) (by simp; have := hbec.size; omega) ?_
               intro g5 cap5 w5 hown5 hg5 hat5 hlt5
               have hbe5 := (hbec.alloc hbec.size _).grown hg5 (by simp; have := hbec.size; omega) (fun j hj => hownc.ge hj)))
              go_roundw
              case rel => exact ⟨j + 1, now, 2, zs ++ [k], by omega, by omega, by go_num, rfl, rfl, hnow, hN, hown5, Lib.hid (by rw [List.length_append, hzl.out]; rfl), Lib.hid (by rw [hst2.out]), hbe5⟩
              case measure => simp [intOf]; omega
            · have hk9 : (n : Int) ≤ k := by omega
              go_wp2_with (first
            | (at_builtin
               refine wpList_push rfl _ _ rfl rfl (hownc.none_ (World.grownBy_alloc wc _ none)) wc.heap.size 1 k rfl (Blk.new _ _ _) (by rw [hzl.out]; omega) (by simp; have := hbec.size; omega) ?_
               intro g5 cap5 w5 hown5 hg5 hat5 hlt5
               have hbe5 := (hbec.alloc hbec.size _).grown hg5 (by simp; have := hbec.size; omega) (fun j hj => hownc.ge hj)))
              go_roundw
              case rel => exact ⟨j + 1, now, 2, zs ++ [k], by omega, by omega, by go_num, rfl, rfl, hnow, hN, hown5, Lib.hid (by rw [List.length_append, hzl.out]; rfl), Lib.hid (by rw [hst2.out]), hbe5⟩
              case measure => simp [intOf]; omega
          · have hst2 := hst.out.trans (by rw [if_neg (by simp), if_neg hkk])
            obtain ⟨k, rfl⟩ : ∃ r : Nat, k = r := ⟨k.toNat, by omega⟩
            rw [Int.toNat_natCast] at hst2
            have hkn : k < n := by omega
            clear hkk
            cases hf : freeB now k with
            | false =>
              rw [hf] at hst2
              have hst2 := Lib.hid (hst2.trans (if_neg (by simp)))
              replace hf := Lib.hid hf
              go_wp2_with (first
            | (at_builtin
               refine wpList_push rfl _ _ rfl rfl (hownc.none_ (World.grownBy_alloc wc _ none)) wc.heap.size 1 k rfl (Blk.new _ _ _) (by rw [hzl.out]; omega) (by simp; have := hbec.size; omega) ?_
               intro g5 cap5 w5 hown5 hg5 hat5 hlt5
               have hbe5 := (hbec.alloc hbec.size _).grown hg5 (by simp; have := hbec.size; omega) (fun j hj => hownc.ge hj))
            | (go_at_call 42
               refine (free_any now k (by omega) (by omega) _ _ rfl rfl _).mono ?_
               rintro e w6 ⟨rfl, hb6⟩
               rw [hf.out]
               have hown6 := hown5.callee hb6
               have hbe6 := hbe5.trans (hb6.mono hbe5.size)))
              go_roundw
              case rel => exact ⟨j + 1, now, 20, zs ++ [(k : Int)], by omega, by omega, by go_num, rfl, rfl, hnow, hN, hown6, Lib.hid (by rw [List.length_append, hzl.out]; rfl), Lib.hid (by rw [hst2.out]), hbe6⟩
              case measure => simp [intOf]; omega
            | true =>
              rw [hf] at hst2
              replace hst2 := Lib.hid (hst2.trans (if_pos rfl))
              replace hf := Lib.hid hf
              have hN2 := Lib.hid (xor_pow_lt hN.out hkn)
              have hxg := xor_go now k (by omega) (by omega)
              have hn64 : now ^^^ 2 ^ k < 64 := by
                have h6 : 2 ^ n ≤ 2 ^ 6 := Nat.pow_le_pow_right (by omega) hn3
                have h7 := hN2.out
                omega
              go_wp2_with (first
            | (at_builtin
               refine wpList_push rfl _ _ rfl rfl (hownc.none_ (World.grownBy_alloc wc _ none)) wc.heap.size 1 k rfl (Blk.new _ _ _) (by rw [hzl.out]; omega) (by simp; have := hbec.size; omega) ?_
               intro g5 cap5 w5 hown5 hg5 hat5 hlt5
               have hbe5 := (hbec.alloc hbec.size _).grown hg5 (by simp; have := hbec.size; omega) (fun j hj => hownc.ge hj))
            | (go_at_call 42
               refine (free_any now k (by omega) (by omega) _ _ rfl rfl _).mono ?_
               rintro e w6 ⟨rfl, hb6⟩
               rw [hf.out]
               have hown6 := hown5.callee hb6
               have hbe6 := hbe5.trans (hb6.mono hbe5.size)))
              go_roundw
              case rel => exact ⟨j + 1, now ^^^ 2 ^ k, 0, zs ++ [(k : Int)], by omega, by omega, by go_num, rfl, rfl, hn64, hN2, hown6, Lib.hid (by rw [List.length_append, hzl.out]; rfl), Lib.hid (by rw [hst2.out]), hbe6⟩
              case measure => simp [intOf]; omega
        · have he0 : (er != 0) = true := by simpa using he
          have heH := Lib.hid he
          clear he
          go_wp2_with (first
            | (at_builtin
               refine wpList_push rfl _ _ rfl rfl (hownc.none_ (World.grownBy_alloc wc _ none)) wc.heap.size 1 k rfl (Blk.new _ _ _) (by rw [hzl.out]; omega) (by simp; have := hbec.size; omega) ?_
               intro g5 cap5 w5 hown5 hg5 hat5 hlt5
               have hbe5 := (hbec.alloc hbec.size _).grown hg5 (by simp; have := hbec.size; omega) (fun j hj => hownc.ge hj)))
          go_roundw
          case rel => exact ⟨j + 1, now, er, zs ++ [k], by omega, by omega, by go_num, rfl, rfl, hnow, hN, hown5, Lib.hid (by rw [List.length_append, hzl.out]; rfl), Lib.hid (by rw [hst.out, if_pos heH.out]), hbe5⟩
          case measure => simp [intOf]; omega
    · by_cases hjm : j = m
      · subst hjm
        obtain ⟨Au, cu, rfl, hru⟩ := hown.reads
        rw [hzl.out] at hru
        have hS := ((Wk.start hT).step hbe).add hru
        have hE := Lib.hid (lead_end (b := b) (by omega) (by omega) hF.out hN.out hLB.out)
        have hE2 := Lib.hid (lead_end (b := now) (by omega) (by omega) hF.out hN.out hN.out)
        have hz3 : (zs.length : Int).tmod 3 = ((zs.length % 3 : Nat) : Int) := by rw [Int.tmod_eq_emod_of_nonneg (by omega)]; rfl
        rw [hzl.out] at hz3
        have hb64 : b < 64 := by
          have h6 : 2 ^ n ≤ 2 ^ 6 := Nat.pow_le_pow_right (by omega) hn3
          have h7 := hLB.out
          omega
        have ha64 : a < 64 := by
          have h6 : 2 ^ n ≤ 2 ^ 6 := Nat.pow_le_pow_right (by omega) hn3
          have h7 := hLA.out
          omega
        have hzl2 := hzl.out
        have hzl4 : zs.length ≤ 100000 := by omega
        by_cases he : er = 0
        · subst he
          replace hE := Lib.hid (hE.out.trans (if_neg (by simp)))
          replace hE2 := Lib.hid (hE2.out.trans ((if_neg (by simp)).trans (if_pos rfl)))
          by_cases hnb : now = b
          · subst hnb
            replace hE := Lib.hid (hE.out.trans (if_pos rfl))
            have _k1 := hT
            have _k2 := hT
            go_wp2_with (first
              | (go_at_call 40; clear _k1; refine (v_given hS n a (by omega) (by omega)).mono ?_; rintro e w1 ⟨A1, c1, rfl, hS2⟩; replace hS := hS2; clear hS2)
              | (go_at_call 40; clear _k2; refine (v_given hS n now (by omega) (by omega)).mono ?_; rintro e w1 ⟨A2, c2, rfl, hS2⟩; replace hS := hS2; clear hS2)
              | (go_at_call 29; refine (v_leads hS (.tail _ (.head _)) (max_of (hS.get (.tail _ (.head _))) (by rw [bitS_length]; omega)) (.head _) (max_of (hS.get (.head _)) (by rw [bitS_length]; omega)) (.tail _ (.tail _ (.head _))) (max_of (hS.get (.tail _ (.tail _ (.head _)))) hzl4)).mono ?_; rintro e w1 ⟨rfl, hS2⟩; replace hS := hS2; clear hS2; rw [hE.out])
              | (go_at_call 15; refine (v_works hS).mono ?_; rintro e w1 ⟨rfl, hS2⟩; replace hS := hS2; clear hS2))
            go_ret
            exact ⟨rfl, hS.2.1⟩
          · replace hE := Lib.hid (hE.out.trans (if_neg hnb))
            have hnb2 : ((now : Int) != (b : Int)) = true := by simp; omega
            rcases Nat.eq_zero_or_pos (zs.length % 3) with h3 | h3
            · rw [hzl2] at h3
              rw [h3] at hz3
              have _k1 := hT
              have _k2 := hT
              go_wp2_with (first
                | (go_at_call 40; clear _k1; refine (v_given hS n a (by omega) (by omega)).mono ?_; rintro e w1 ⟨A1, c1, rfl, hS2⟩; replace hS := hS2; clear hS2)
                | (go_at_call 40; clear _k2; refine (v_given hS n now (by omega) (by omega)).mono ?_; rintro e w1 ⟨A2, c2, rfl, hS2⟩; replace hS := hS2; clear hS2)
                | (go_at_call 29; refine (v_leads hS (.tail _ (.head _)) (max_of (hS.get (.tail _ (.head _))) (by rw [bitS_length]; omega)) (.head _) (max_of (hS.get (.head _)) (by rw [bitS_length]; omega)) (.tail _ (.tail _ (.head _))) (max_of (hS.get (.tail _ (.tail _ (.head _)))) hzl4)).mono ?_; rintro e w1 ⟨rfl, hS2⟩; replace hS := hS2; clear hS2; rw [hE2.out])
                | (go_at_call 15; refine (v_works hS).mono ?_; rintro e w1 ⟨rfl, hS2⟩; replace hS := hS2; clear hS2))
              go_ret
              exact ⟨rfl, hS.2.1⟩
            · rw [hzl2] at h3
              have h30 : (((j % 3 : Nat) : Int) == 0) = false := by simp; omega
              have _k1 := hT
              have _k2 := hT
              go_wp2_with (first
                | (go_at_call 40; clear _k1; refine (v_given hS n a (by omega) (by omega)).mono ?_; rintro e w1 ⟨A1, c1, rfl, hS2⟩; replace hS := hS2; clear hS2)
                | (go_at_call 40; clear _k2; refine (v_given hS n b (by omega) (by omega)).mono ?_; rintro e w1 ⟨A2, c2, rfl, hS2⟩; replace hS := hS2; clear hS2)
                | (go_at_call 29; refine (v_leads hS (.tail _ (.head _)) (max_of (hS.get (.tail _ (.head _))) (by rw [bitS_length]; omega)) (.head _) (max_of (hS.get (.head _)) (by rw [bitS_length]; omega)) (.tail _ (.tail _ (.head _))) (max_of (hS.get (.tail _ (.tail _ (.head _)))) hzl4)).mono ?_; rintro e w1 ⟨rfl, hS2⟩; replace hS := hS2; clear hS2; rw [hE.out])
                | (go_at_call 15; refine (v_works hS).mono ?_; rintro e w1 ⟨rfl, hS2⟩; replace hS := hS2; clear hS2))
              go_ret
              exact ⟨rfl, hS.2.1⟩
        · have he0 : (er == 0) = false := by simpa using he
          replace hE := Lib.hid (hE.out.trans (if_pos he))
          clear he
          have _k1 := hT
          have _k2 := hT
          go_wp2_with (first
            | (go_at_call 40; clear _k1; refine (v_given hS n a (by omega) (by omega)).mono ?_; rintro e w1 ⟨A1, c1, rfl, hS2⟩; replace hS := hS2; clear hS2)
            | (go_at_call 40; clear _k2; refine (v_given hS n b (by omega) (by omega)).mono ?_; rintro e w1 ⟨A2, c2, rfl, hS2⟩; replace hS := hS2; clear hS2)
            | (go_at_call 29; refine (v_leads hS (.tail _ (.head _)) (max_of (hS.get (.tail _ (.head _))) (by rw [bitS_length]; omega)) (.head _) (max_of (hS.get (.head _)) (by rw [bitS_length]; omega)) (.tail _ (.tail _ (.head _))) (max_of (hS.get (.tail _ (.tail _ (.head _)))) hzl4)).mono ?_; rintro e w1 ⟨rfl, hS2⟩; replace hS := hS2; clear hS2; rw [hE.out])
            | (go_at_call 15; refine (v_works hS).mono ?_; rintro e w1 ⟨rfl, hS2⟩; replace hS := hS2; clear hS2))
          go_ret
          exact ⟨rfl, hS.2.1⟩
      · obtain ⟨ad, y, rfl, _, hcell, hy⟩ := RBytes.at_ (Reads.below ha hbe) hbs (show j < m by omega)
        have hj4 : (40 : Int) ≤ j := by omega
        have hjlt : (j : Int) < m := by omega
        obtain ⟨Au, cu, rfl, hru⟩ := hown.reads
        rw [hzl.out] at hru
        have hS := ((Wk.start hT).step hbe).add hru
        have hE := Lib.hid (lead_end (b := b) (by omega) (by omega) hF.out hN.out hLB.out)
        have hE2 := Lib.hid (lead_end (b := now) (by omega) (by omega) hF.out hN.out hN.out)
        have hz3 : (zs.length : Int).tmod 3 = ((zs.length % 3 : Nat) : Int) := by rw [Int.tmod_eq_emod_of_nonneg (by omega)]; rfl
        rw [hzl.out] at hz3
        have hb64 : b < 64 := by
          have h6 : 2 ^ n ≤ 2 ^ 6 := Nat.pow_le_pow_right (by omega) hn3
          have h7 := hLB.out
          omega
        have ha64 : a < 64 := by
          have h6 : 2 ^ n ≤ 2 ^ 6 := Nat.pow_le_pow_right (by omega) hn3
          have h7 := hLA.out
          omega
        have hzl2 := hzl.out
        have hzl4 : zs.length ≤ 100000 := by omega
        by_cases he : er = 0
        · subst he
          replace hE := Lib.hid (hE.out.trans (if_neg (by simp)))
          replace hE2 := Lib.hid (hE2.out.trans ((if_neg (by simp)).trans (if_pos rfl)))
          by_cases hnb : now = b
          · subst hnb
            replace hE := Lib.hid (hE.out.trans (if_pos rfl))
            have _k1 := hT
            have _k2 := hT
            go_wp2_with (first
              | (go_at_call 40; clear _k1; refine (v_given hS n a (by omega) (by omega)).mono ?_; rintro e w1 ⟨A1, c1, rfl, hS2⟩; replace hS := hS2; clear hS2)
              | (go_at_call 40; clear _k2; refine (v_given hS n now (by omega) (by omega)).mono ?_; rintro e w1 ⟨A2, c2, rfl, hS2⟩; replace hS := hS2; clear hS2)
              | (go_at_call 29; refine (v_leads hS (.tail _ (.head _)) (max_of (hS.get (.tail _ (.head _))) (by rw [bitS_length]; omega)) (.head _) (max_of (hS.get (.head _)) (by rw [bitS_length]; omega)) (.tail _ (.tail _ (.head _))) (max_of (hS.get (.tail _ (.tail _ (.head _)))) hzl4)).mono ?_; rintro e w1 ⟨rfl, hS2⟩; replace hS := hS2; clear hS2; rw [hE.out])
              | (go_at_call 15; refine (v_works hS).mono ?_; rintro e w1 ⟨rfl, hS2⟩; replace hS := hS2; clear hS2))
            go_ret
            exact ⟨rfl, hS.2.1⟩
          · replace hE := Lib.hid (hE.out.trans (if_neg hnb))
            have hnb2 : ((now : Int) != (b : Int)) = true := by simp; omega
            rcases Nat.eq_zero_or_pos (zs.length % 3) with h3 | h3
            · rw [hzl2] at h3
              rw [h3] at hz3
              have _k1 := hT
              have _k2 := hT
              go_wp2_with (first
                | (go_at_call 40; clear _k1; refine (v_given hS n a (by omega) (by omega)).mono ?_; rintro e w1 ⟨A1, c1, rfl, hS2⟩; replace hS := hS2; clear hS2)
                | (go_at_call 40; clear _k2; refine (v_given hS n now (by omega) (by omega)).mono ?_; rintro e w1 ⟨A2, c2, rfl, hS2⟩; replace hS := hS2; clear hS2)
                | (go_at_call 29; refine (v_leads hS (.tail _ (.head _)) (max_of (hS.get (.tail _ (.head _))) (by rw [bitS_length]; omega)) (.head _) (max_of (hS.get (.head _)) (by rw [bitS_length]; omega)) (.tail _ (.tail _ (.head _))) (max_of (hS.get (.tail _ (.tail _ (.head _)))) hzl4)).mono ?_; rintro e w1 ⟨rfl, hS2⟩; replace hS := hS2; clear hS2; rw [hE2.out])
                | (go_at_call 15; refine (v_works hS).mono ?_; rintro e w1 ⟨rfl, hS2⟩; replace hS := hS2; clear hS2))
              go_ret
              exact ⟨rfl, hS.2.1⟩
            · rw [hzl2] at h3
              have h30 : (((j % 3 : Nat) : Int) == 0) = false := by simp; omega
              have _k1 := hT
              have _k2 := hT
              go_wp2_with (first
                | (go_at_call 40; clear _k1; refine (v_given hS n a (by omega) (by omega)).mono ?_; rintro e w1 ⟨A1, c1, rfl, hS2⟩; replace hS := hS2; clear hS2)
                | (go_at_call 40; clear _k2; refine (v_given hS n b (by omega) (by omega)).mono ?_; rintro e w1 ⟨A2, c2, rfl, hS2⟩; replace hS := hS2; clear hS2)
                | (go_at_call 29; refine (v_leads hS (.tail _ (.head _)) (max_of (hS.get (.tail _ (.head _))) (by rw [bitS_length]; omega)) (.head _) (max_of (hS.get (.head _)) (by rw [bitS_length]; omega)) (.tail _ (.tail _ (.head _))) (max_of (hS.get (.tail _ (.tail _ (.head _)))) hzl4)).mono ?_; rintro e w1 ⟨rfl, hS2⟩; replace hS := hS2; clear hS2; rw [hE.out])
                | (go_at_call 15; refine (v_works hS).mono ?_; rintro e w1 ⟨rfl, hS2⟩; replace hS := hS2; clear hS2))
              go_ret
              exact ⟨rfl, hS.2.1⟩
        · have he0 : (er == 0) = false := by simpa using he
          replace hE := Lib.hid (hE.out.trans (if_pos he))
          clear he
          have _k1 := hT
          have _k2 := hT
          go_wp2_with (first
            | (go_at_call 40; clear _k1; refine (v_given hS n a (by omega) (by omega)).mono ?_; rintro e w1 ⟨A1, c1, rfl, hS2⟩; replace hS := hS2; clear hS2)
            | (go_at_call 40; clear _k2; refine (v_given hS n b (by omega) (by omega)).mono ?_; rintro e w1 ⟨A2, c2, rfl, hS2⟩; replace hS := hS2; clear hS2)
            | (go_at_call 29; refine (v_leads hS (.tail _ (.head _)) (max_of (hS.get (.tail _ (.head _))) (by rw [bitS_length]; omega)) (.head _) (max_of (hS.get (.head _)) (by rw [bitS_length]; omega)) (.tail _ (.tail _ (.head _))) (max_of (hS.get (.tail _ (.tail _ (.head _)))) hzl4)).mono ?_; rintro e w1 ⟨rfl, hS2⟩; replace hS := hS2; clear hS2; rw [hE.out])
            | (go_at_call 15; refine (v_works hS).mono ?_; rintro e w1 ⟨rfl, hS2⟩; replace hS := hS2; clear hS2))
          go_ret
          exact ⟨rfl, hS.2.1⟩
end Go.Proofs.YtjhcemhnnkcjaaaDoor
