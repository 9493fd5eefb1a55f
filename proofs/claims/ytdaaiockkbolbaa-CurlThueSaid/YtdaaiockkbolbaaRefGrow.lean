/- The reference's Grow. (Printed by genrefgrow.py.) -/
import Derived.Test.YtdaaiockkbolbaaGrowK
namespace Go.Proofs.Ytdaaiockkbolbaa
open Go.RowKit
set_option maxRecDepth 100000 in
set_option maxHeartbeats 4000000 in
theorem refGrow_any (A : Option Addr) (n c : Nat) (ws : List ByteArray) (l : Int) (w : World) (B : Nat) (hB : B ≤ w.heap.size) (hr : RStrs w B A n ws) :
    Calls Try.prog 37 #[.agg #[.slice A n c], .int .i64 l] w fun e w' => e = .returned (.tuple #[.string ⟨(growV ws l).toArray⟩, .int .i64 (growE ws l)]) ∧ Below w.heap.size w w' := by
  have hlen := hr.len
  by_cases h0 : ruleE ws = 0
  · obtain ⟨z1, z2, z3, z4, z5⟩ := ruleE_zero h0
    have h0H := Lib.hid h0
    have hn1 : 1 ≤ n := by omega
    have hn4 : n ≤ 4 := by omega
    have hni : (0 : Int) < n := by omega
    obtain ⟨ad, s0, rfl, hab, hcell0, hs0⟩ := hr.first hn1
    by_cases hl : 0 ≤ l ∧ l ≤ 600
    · have hw1 : withinB l 0 600 = true := by simp [withinB, hl]
      obtain ⟨K, hK⟩ : ∃ K, s0.size = K := ⟨_, rfl⟩
      rw [hs0.out, hK] at z3 z4
      have hKH := Lib.hid (show (ws.headD ⟨#[]⟩).size = K by rw [hs0.out, hK])
      by_cases hK1 : K = 1
      · have hE := Lib.hid (show growE ws l = 12 by rw [growE, if_neg (by simpa using h0), if_neg (by simpa using hl), if_pos (Or.inl (by rw [hKH.out, hK1]))])
        have hV := Lib.hid (show growV ws l = [] by rw [growV, if_neg (by rw [hE.out]; decide)])
        have hKi : ((K : Int) == 1) = true := by simp; omega
        clear h0 z5 hK1
        go_enter Try.func37, Try.ntmps37
        go_wp2_with (first
          | (with_reducible show wpList _ _ _ (⟨_, .box 40 _, _, _, _, _⟩ :: _) _ _
             refine wpList_box_blk rfl 40 _ rfl #[.slice (some ad) n c] rfl ?_
             intro w1 g hG hgr hge
             have hk := Rk.box hB hr hG hgr
             have cg := hk.cell
             have hg := hk.bk.lt
             have hRB := hk.b
             have hc0 := (hk.be.cell (p := ad) (by omega)).trans hcell0
             clear hG hgr hge)
          | (with_reducible show wpList _ _ _ (⟨_, .load 40 _, _, _, _, _⟩ :: _) _ _
             refine wpList_load_blk rfl 40 _ rfl g rfl 40 #[.slice (some ad) n c] _ hk.bk Try.underlying40 rfl (info_oneR _) ?_)
          | (go_at_call 35; refine (refCheckRule_any _ n c ws _ B hRB hk.rs).mono ?_; rintro e w' ⟨rfl, hb'⟩; rw [h0H.out]
             replace hk := hk.call hb'
             have cg := hk.cell
             have hg := hk.bk.lt
             have hRB := hk.b
             have hc0 := (hk.be.cell (p := ad) (by omega)).trans hcell0
             clear hb')
          | (go_at_call 63; refine (in_any _ _ _ _).mono ?_; rintro e w' ⟨rfl, rfl⟩; rw [hw1]))
        go_loopw [7, 6] (fun x v wr => x = .int .i64 0 ∧ v = .int .i64 12 ∧ Rk 40 w wr g (some ad) n c ws B) (fun _ _ _ => 0)
        case atStart => exact ⟨rfl, rfl, hk⟩
        case round =>
          obtain ⟨rfl, rfl, hk⟩ := hrel
          have cg := hk.cell
          go_wp2_with (fail)
          go_ret2
          exact ⟨by rw [hE.out, hV.out]; rfl, hk.be⟩
      · have hKi : ((K : Int) == 1) = false := by simp; omega
        have h0s : 0 < s0.size := by omega
        obtain ⟨b, hb⟩ : ∃ b, s0[0]'h0s = b := ⟨_, rfl⟩
        have hb0 := bts_at s0 0 h0s
        rw [hb] at hb0
        have hbs : Value.int .u8 (((s0[0]'h0s).toNat : Nat) : Int) = Value.int .u8 ((b.toNat : Nat) : Int) := by rw [hb]
        have h0si : (0 : Int) < (K : Int) := by omega
        by_cases hb97 : b.toNat = 97
        · have hbb : ((b.toNat : Int) != 97) = false := by simp [hb97]
          have hfst : (bts (ws.headD ⟨#[]⟩))[0]? = some 97 := by rw [hs0.out, hb0, show b = 97 from UInt8.toNat_inj.1 hb97]
          have hno : ¬ ((ws.headD ⟨#[]⟩).size = 1 ∨ (bts (ws.headD ⟨#[]⟩))[0]? ≠ some 97) := by
            rintro (h | h)
            · rw [hKH.out] at h; exact hK1 h
            · exact h hfst
          have hE2 := Lib.hid (show ws.all (fun t => lettersS (bts t) (n : Int)) = false → growE ws l = 2 from fun hq => by rw [growE, if_neg (by simpa using h0), if_neg (by simpa using hl), if_neg hno, hlen, hq]; rfl)
          have hE0 := Lib.hid (show ws.all (fun t => lettersS (bts t) (n : Int)) = true → growE ws l = 0 from fun hq => by rw [growE, if_neg (by simpa using h0), if_neg (by simpa using hl), if_neg hno, hlen, hq]; rfl)
          have hGr := Lib.hid (fun hq => grows_of h0 hno (by rw [hlen]; exact hq))
          rw [hlen, hKH.out] at hGr
          have hwr := Lib.hid (fun (t : ByteArray) (ht : t ∈ ws) w' => written_any t (by have := (z5 t ht).1; have := hKH.out; omega) (n : Int) (by omega) (by omega) w')
          obtain ⟨L, rfl⟩ : ∃ L : Nat, l = L := ⟨l.toNat, by omega⟩
          have hL6 : L ≤ 600 := by omega
          have hlenH := Lib.hid hlen
          have hrep := Lib.hid (fun (s : ByteArray) hs1 hs2 (w' : World) (B' : Nat) h1 h2 => replaced_any (some ad) n c ws s w' B' h1 h2 hn4 hs1 hs2 (fun t ht => by have := (z5 t ht).1; have := hKH.out; omega))
          clear h0 z5 hK1 hb hb0 hb97 hno hfst hlen
          go_enter Try.func37, Try.ntmps37
          go_wp2_with (first
            | (with_reducible show wpList _ _ _ (⟨_, .box 40 _, _, _, _, _⟩ :: _) _ _
               refine wpList_box_blk rfl 40 _ rfl #[.slice (some ad) n c] rfl ?_
               intro w1 g hG hgr hge
               have hk := Rk.box hB hr hG hgr
               have cg := hk.cell
               have hg := hk.bk.lt
               have hRB := hk.b
               have hc0 := (hk.be.cell (p := ad) (by omega)).trans hcell0
               clear hG hgr hge)
            | (with_reducible show wpList _ _ _ (⟨_, .load 40 _, _, _, _, _⟩ :: _) _ _
               refine wpList_load_blk rfl 40 _ rfl g rfl 40 #[.slice (some ad) n c] _ hk.bk Try.underlying40 rfl (info_oneR _) ?_)
            | (go_at_call 35; refine (refCheckRule_any _ n c ws _ B hRB hk.rs).mono ?_; rintro e w' ⟨rfl, hb'⟩; rw [h0H.out]
               replace hk := hk.call hb'
               have cg := hk.cell
               have hg := hk.bk.lt
               have hRB := hk.b
               have hc0 := (hk.be.cell (p := ad) (by omega)).trans hcell0
               clear hb')
            | (go_at_call 63; refine (in_any _ _ _ _).mono ?_; rintro e w' ⟨rfl, rfl⟩; rw [hw1]))
          go_loopw [7, 6] (fun x v wr => ∃ (i : Nat) (ev : Int), i ≤ n ∧ x = .int .i64 i ∧ v = .int .i64 ev ∧ Hid ((ev = 0 ∧ (∀ t ∈ ws.take i, lettersS (bts t) (n : Int) = true)) ∨ (ev = 2 ∧ growE ws (L : Int) = 2)) ∧ Rk 40 w wr g (some ad) n c ws B) (fun x v _ => if intOf v = 2 then 0 else n + 1 - (intOf x).toNat)
          case atStart => exact ⟨0, 0, by omega, rfl, rfl, Lib.hid (Or.inl ⟨rfl, fun t ht => by simp at ht⟩), hk⟩
          case round =>
            obtain ⟨i, ev, hin, rfl, rfl, hev, hk⟩ := hrel
            have cg := hk.cell
            rcases hev.out with ⟨rfl, hall⟩ | ⟨rfl, hE'⟩
            · have hallH := Lib.hid hall
              clear hev hall
              by_cases hlt : i < n
              · have hlti : (i : Int) < n := by omega
                obtain ⟨ad', t, had, hadb, hcell, hwt⟩ := hk.rs.at_ hlt
                obtain rfl : ad = ad' := by simpa using had
                have htm := List.mem_of_getElem? hwt.out
                have hwrt := Lib.hid (hwr.out t htm)
                have hadw : (ad.add i).block < wr.heap.size := by rw [block_of_add]; have := hk.b; omega
                cases hq : lettersS (bts t) (n : Int) with
                | true =>
                  have hN := Lib.hid (show ∀ u ∈ ws.take (i + 1), lettersS (bts u) (n : Int) = true by
                    intro u hu
                    rw [List.take_add_one, hwt.out, List.mem_append] at hu
                    rcases hu with hu | hu
                    · exact hallH.out u hu
                    · simp at hu; subst hu; exact hq)
                  have hqH := Lib.hid hq
                  clear hq had htm
                  go_wp2_with (fail)
                  go_region_held3 (fun w' => w'.cell? ⟨g, 0, none⟩ = some (.slice (some ad) n c) ∧ w'.cell? (ad.add i) = some (.string t) ∧ Rk 40 w w' g (some ad) n c ws B)
                    (first | assumption | exact ⟨cg, hcell, hk⟩ | exact ⟨cg, hcell, hk.drew⟩)
                    (first | (go_at_call 53; refine (hwrt.out _).mono ?_; rintro e w3 ⟨rfl, hb3⟩; rw [hqH.out]
                              have hS3 : w3.cell? ⟨g, 0, none⟩ = some (.slice (some ad) n c) ∧ w3.cell? (ad.add i) = some (.string t) ∧ Rk 40 w w3 g (some ad) n c ws B := ⟨(hk.drew.call hb3).cell, (hb3.cell (p := ad.add i) hadw).trans hcell, hk.drew.call hb3⟩))
                  replace hk := hS3.2.2
                  go_wp2_with (fail)
                  go_roundw
                  case rel => exact ⟨i + 1, 0, by omega, by go_num, rfl, Lib.hid (Or.inl ⟨rfl, hN.out⟩), hk⟩
                  case measure => simp [intOf]; omega
                | false =>
                  have hN := Lib.hid (hE2.out (by
                    rw [Bool.eq_false_iff]
                    intro h
                    have := List.all_eq_true.1 h t htm
                    rw [hq] at this; cases this))
                  have hqH := Lib.hid hq
                  clear hq had htm
                  go_wp2_with (fail)
                  go_region_held3 (fun w' => w'.cell? ⟨g, 0, none⟩ = some (.slice (some ad) n c) ∧ w'.cell? (ad.add i) = some (.string t) ∧ Rk 40 w w' g (some ad) n c ws B)
                    (first | assumption | exact ⟨cg, hcell, hk⟩ | exact ⟨cg, hcell, hk.drew⟩)
                    (first | (go_at_call 53; refine (hwrt.out _).mono ?_; rintro e w3 ⟨rfl, hb3⟩; rw [hqH.out]
                              have hS3 : w3.cell? ⟨g, 0, none⟩ = some (.slice (some ad) n c) ∧ w3.cell? (ad.add i) = some (.string t) ∧ Rk 40 w w3 g (some ad) n c ws B := ⟨(hk.drew.call hb3).cell, (hb3.cell (p := ad.add i) hadw).trans hcell, hk.drew.call hb3⟩))
                  replace hk := hS3.2.2
                  go_wp2_with (fail)
                  go_roundw
                  case rel => exact ⟨i + 1, 2, by omega, by go_num, rfl, Lib.hid (Or.inr ⟨rfl, hN.out⟩), hk⟩
                  case measure => simp [intOf]; omega
              · have hlti : ¬ (i : Int) < n := by omega
                have hqa : ws.all (fun t => lettersS (bts t) (n : Int)) = true := List.all_eq_true.2 (fun t ht => hallH.out t (by rw [List.take_of_length_le (by rw [hlenH.out]; omega)]; exact ht))
                have hE := Lib.hid (hE0.out hqa)
                have hV := Lib.hid (show growV ws (L : Int) = growW ws (L : Int).toNat by rw [growV, if_pos hE.out])
                have hG0 := Lib.hid (hGr.out hqa)
                clear hqa
                go_wp2_with (fail)
                go_loopw [8] (fun v wr => ∃ u : Word, v = .string ⟨u.toArray⟩ ∧ u.length ≤ 10000 ∧ Hid (IsGrow ws u ∧ lettersS u (n : Int) = true) ∧ Rk 40 w wr g (some ad) n c ws B) (fun v _ => match v with | .string s => 700 - s.size | _ => 0)
                case atStart => exact ⟨[97], rfl, by simp, Lib.hid ⟨hG0.out.one, hG0.out.one_letters⟩, hk⟩
                case round =>
                  obtain ⟨u, rfl, hu1, hu, hk⟩ := hrel
                  have cg := hk.cell
                  have husz : (⟨u.toArray⟩ : ByteArray).size = u.length := rfl
                  have hRB := hk.b
                  by_cases hlt : u.length < L
                  · have hlti : (u.length : Int) < L := by omega
                    have hlo := hG0.out.longer hu.out.1 hu.out.2
                    have hK13 : u.length * K ≤ 600 * 13 := Nat.mul_le_mul (by omega) hG0.out.K13
                    have hN := Lib.hid (show IsGrow ws (putS ws u) ∧ lettersS (putS ws u) (n : Int) = true from ⟨hu.out.1.put, letters_put hG0.out.letters u⟩)
                    have hrepu := Lib.hid (hrep.out ⟨u.toArray⟩ hu.out.2 (by show u.length ≤ _; omega))
                    have hbu : bts ⟨u.toArray⟩ = u := rfl
                    have hpu : (putS ws u).length ≤ 10000 := by omega
                    have hgrow : u.length < (putS ws u).length := by omega
                    clear hlo hK13
                    go_wp2_with (first
                      | (with_reducible show wpList _ _ _ (⟨_, .load 40 _, _, _, _, _⟩ :: _) _ _
                         refine wpList_load_blk rfl 40 _ rfl g rfl 40 #[.slice (some ad) n c] _ hk.bk Try.underlying40 rfl (info_oneR _) ?_)
                      | (go_at_call 70; refine (hrepu.out _ B hRB hk.rs).mono ?_; rintro e w9 ⟨rfl, hb9⟩; rw [hbu]
                         replace hk := hk.call hb9))
                    go_roundw
                    case rel => exact ⟨putS ws u, rfl, hpu, hN, hk⟩
                    case measure => show 700 - (putS ws u).length < 700 - u.length; omega
                  · have hlti : ¬ (u.length : Int) < L := by omega
                    have hval := Lib.hid (show u.take L = growW ws (L : Int).toNat from hG0.out.val hu.out.1 hu.out.2 (L := L) (by omega))
                    have hLi : (L : Int) ≤ u.length := by omega
                    have hsl : (⟨u.toArray⟩ : ByteArray).extract 0 L = ⟨(u.take L).toArray⟩ := bts_inj (by rw [bts_extract]; rfl)
                    go_wp2_with (fail)
                    go_ret2
                    exact ⟨by rw [hE.out, hV.out, ← hval.out]; rfl, hk.be⟩
            · have hE := Lib.hid hE'
              have hV := Lib.hid (show growV ws (L : Int) = [] by rw [growV, if_neg (by rw [hE.out]; decide)])
              clear hev hE'
              by_cases hlt : i < n
              · have hlti : (i : Int) < n := by omega
                go_wp2_with (fail)
                go_ret2
                exact ⟨by rw [hE.out, hV.out]; rfl, hk.be⟩
              · have hlti : ¬ (i : Int) < n := by omega
                go_wp2_with (fail)
                go_ret2
                exact ⟨by rw [hE.out, hV.out]; rfl, hk.be⟩
        · have hbb : ((b.toNat : Int) != 97) = true := by simp; omega
          have hE := Lib.hid (show growE ws l = 12 by
            rw [growE, if_neg (by simpa using h0), if_neg (by simpa using hl), if_pos (Or.inr ?_)]
            rw [hs0.out, hb0]
            intro h
            simp only [Option.some.injEq] at h
            subst h
            exact hb97 rfl)
          have hV := Lib.hid (show growV ws l = [] by rw [growV, if_neg (by rw [hE.out]; decide)])
          clear h0 z5 hK1 hb hb0
          go_enter Try.func37, Try.ntmps37
          go_wp2_with (first
            | (with_reducible show wpList _ _ _ (⟨_, .box 40 _, _, _, _, _⟩ :: _) _ _
               refine wpList_box_blk rfl 40 _ rfl #[.slice (some ad) n c] rfl ?_
               intro w1 g hG hgr hge
               have hk := Rk.box hB hr hG hgr
               have cg := hk.cell
               have hg := hk.bk.lt
               have hRB := hk.b
               have hc0 := (hk.be.cell (p := ad) (by omega)).trans hcell0
               clear hG hgr hge)
            | (with_reducible show wpList _ _ _ (⟨_, .load 40 _, _, _, _, _⟩ :: _) _ _
               refine wpList_load_blk rfl 40 _ rfl g rfl 40 #[.slice (some ad) n c] _ hk.bk Try.underlying40 rfl (info_oneR _) ?_)
            | (go_at_call 35; refine (refCheckRule_any _ n c ws _ B hRB hk.rs).mono ?_; rintro e w' ⟨rfl, hb'⟩; rw [h0H.out]
               replace hk := hk.call hb'
               have cg := hk.cell
               have hg := hk.bk.lt
               have hRB := hk.b
               have hc0 := (hk.be.cell (p := ad) (by omega)).trans hcell0
               clear hb')
            | (go_at_call 63; refine (in_any _ _ _ _).mono ?_; rintro e w' ⟨rfl, rfl⟩; rw [hw1]))
          go_loopw [7, 6] (fun x v wr => x = .int .i64 0 ∧ v = .int .i64 12 ∧ Rk 40 w wr g (some ad) n c ws B) (fun _ _ _ => 0)
          case atStart => exact ⟨rfl, rfl, hk⟩
          case round =>
            obtain ⟨rfl, rfl, hk⟩ := hrel
            have cg := hk.cell
            go_wp2_with (fail)
            go_ret2
            exact ⟨by rw [hE.out, hV.out]; rfl, hk.be⟩
    · have hw1 : withinB l 0 600 = false := by rw [Bool.eq_false_iff]; intro h; simp [withinB] at h; omega
      have hE := Lib.hid (show growE ws l = 1 by rw [growE, if_neg (by simpa using h0), if_pos hl])
      have hV := Lib.hid (show growV ws l = [] by rw [growV, if_neg (by rw [hE.out]; decide)])
      clear h0 z5
      go_enter Try.func37, Try.ntmps37
      go_wp2_with (first
        | (with_reducible show wpList _ _ _ (⟨_, .box 40 _, _, _, _, _⟩ :: _) _ _
           refine wpList_box_blk rfl 40 _ rfl #[.slice (some ad) n c] rfl ?_
           intro w1 g hG hgr hge
           have hk := Rk.box hB hr hG hgr
           have cg := hk.cell
           have hg := hk.bk.lt
           have hRB := hk.b
           have hc0 := (hk.be.cell (p := ad) (by omega)).trans hcell0
           clear hG hgr hge)
        | (with_reducible show wpList _ _ _ (⟨_, .load 40 _, _, _, _, _⟩ :: _) _ _
           refine wpList_load_blk rfl 40 _ rfl g rfl 40 #[.slice (some ad) n c] _ hk.bk Try.underlying40 rfl (info_oneR _) ?_)
        | (go_at_call 35; refine (refCheckRule_any _ n c ws _ B hRB hk.rs).mono ?_; rintro e w' ⟨rfl, hb'⟩; rw [h0H.out]
           replace hk := hk.call hb'
           have cg := hk.cell
           have hg := hk.bk.lt
           have hRB := hk.b
           have hc0 := (hk.be.cell (p := ad) (by omega)).trans hcell0
           clear hb')
        | (go_at_call 63; refine (in_any _ _ _ _).mono ?_; rintro e w' ⟨rfl, rfl⟩; rw [hw1]))
      go_loopw [7, 6] (fun x v wr => x = .int .i64 0 ∧ v = .int .i64 1 ∧ Rk 40 w wr g (some ad) n c ws B) (fun _ _ _ => 0)
      case atStart => exact ⟨rfl, rfl, hk⟩
      case round =>
        obtain ⟨rfl, rfl, hk⟩ := hrel
        have cg := hk.cell
        go_wp2_with (fail)
        go_ret2
        exact ⟨by rw [hE.out, hV.out]; rfl, hk.be⟩
  · have hE := Lib.hid (show growE ws l = ruleE ws by rw [growE, if_pos h0])
    have hV := Lib.hid (show growV ws l = [] by rw [growV, if_neg (by rw [hE.out]; exact h0)])
    have h0b : (ruleE ws != 0) = true := by simpa using h0
    have h0c : (ruleE ws == 0) = false := by simpa using h0
    clear h0
    by_cases hn0 : 0 < n
    all_goals
      have hn0i : (0 : Int) < n ↔ 0 < n := by omega
      have hnd : decide ((0 : Int) < n) = decide (0 < n) := by simp
      simp only [hn0, decide_true, decide_false] at hnd
      clear hn0i
      go_enter Try.func37, Try.ntmps37
      go_wp2_with (first
        | (with_reducible show wpList _ _ _ (⟨_, .box 40 _, _, _, _, _⟩ :: _) _ _
           refine wpList_box_blk rfl 40 _ rfl #[.slice A n c] rfl ?_
           intro w1 g hG hgr hge
           have hk := Rk.box hB hr hG hgr
           have cg := hk.cell
           have hg := hk.bk.lt
           have hRB := hk.b
           clear hG hgr hge)
        | (with_reducible show wpList _ _ _ (⟨_, .load 40 _, _, _, _, _⟩ :: _) _ _
           refine wpList_load_blk rfl 40 _ rfl g rfl 40 #[.slice A n c] _ hk.bk Try.underlying40 rfl (info_oneR _) ?_)
        | (go_at_call 35; refine (refCheckRule_any _ n c ws _ B hRB hk.rs).mono ?_; rintro e w' ⟨rfl, hb'⟩
           replace hk := hk.call hb'
           have cg := hk.cell
           have hg := hk.bk.lt
           have hRB := hk.b
           clear hb'))
      go_loopw [7, 6] (fun x v wr => x = .int .i64 0 ∧ v = .int .i64 (ruleE ws) ∧ Rk 40 w wr g A n c ws B) (fun _ _ _ => 0)
      case atStart => exact ⟨rfl, rfl, hk⟩
      case round =>
        obtain ⟨rfl, rfl, hk⟩ := hrel
        have cg := hk.cell
        go_wp2_with (fail)
        go_ret2
        exact ⟨by rw [hE.out, hV.out]; rfl, hk.be⟩
end Go.Proofs.Ytdaaiockkbolbaa
