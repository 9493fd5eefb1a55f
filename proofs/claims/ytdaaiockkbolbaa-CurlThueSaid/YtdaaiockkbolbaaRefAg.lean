/- The reference's against. -/
import Derived.Test.YtdaaiockkbolbaaAgR
namespace Go.Proofs.Ytdaaiockkbolbaa
open Go.RowKit
theorem ag_three {ws : List ByteArray} {n j : Nat} {t : ByteArray} (h : agS ws n j = bts t) (h1 : 1 ≤ t.size) (hj : j ≤ 3) : agS ws n 3 = bts t := by
  have he : (agS ws n j).isEmpty = false := by
    rw [h]
    cases hb : bts t with
    | nil => have := bts_len t; rw [hb] at this; simp at this; omega
    | cons a l => rfl
  rw [show 3 = j + (3 - j) by omega, agS_stay he, h]
theorem letters_word {n L : Nat} {t : ByteArray} (hn : n ≤ 4) (ht : t ∈ wordsB n L) : lettersS (bts t) (n : Int) = true := by
  induction L generalizing t with
  | zero => simp [wordsB] at ht; subst ht; rfl
  | succ L ih =>
    rw [wordsB, List.mem_flatMap] at ht
    obtain ⟨u, hu, hx⟩ := ht
    simp only [extB, List.mem_map, List.mem_range] at hx
    obtain ⟨j, hj, rfl⟩ := hx
    rw [bts_append]
    have e : bts ⟨#[(97 + j).toUInt8]⟩ = [(97 + j).toUInt8] := rfl
    have h8 : (97 + j).toUInt8.toNat = 97 + j := by rw [Nat.toUInt8, UInt8.toNat_ofNat']; omega
    rw [e]
    exact letters_snoc (ih hu) (by omega) (by omega)
set_option maxRecDepth 100000 in
set_option maxHeartbeats 4000000 in
theorem refAgainst_in (A : Option Addr) (n c : Nat) (ws : List ByteArray) (w : World) (B : Nat) (hB : B ≤ w.heap.size) (hr : RStrs w B A n ws) (hn : n ≤ 4) (hws : ∀ t ∈ ws, t.size ≤ 13) :
    Calls Try.prog 72 #[.agg #[.slice A n c]] w fun e w' => e = .returned (.string ⟨(agS ws n 3).toArray⟩) ∧ Below w.heap.size w w' := by
  have hwsH := Lib.hid (fun (t : ByteArray) (ht : t ∈ ws) => show t.size ≤ 1000 by have := hws t ht; omega)
  clear hws
  go_enter Try.func72, Try.ntmps72
  go_wp2_with (first
    | (with_reducible show wpList _ _ _ (⟨_, .box 40 _, _, _, _, _⟩ :: _) _ _
       refine wpList_box_blk rfl 40 _ rfl #[.slice A n c] rfl ?_
       intro w1 g hG hgr hge
       have hk1 := Rk.box hB hr hG hgr
       clear hG hgr hge))
  go_loopw [3] (fun v wr => ∃ i j : Nat, j + 1 = i ∧ j ≤ 3 ∧ v = .int .i64 i ∧ Hid (agS ws n j = []) ∧ Rk 40 w wr g A n c ws B) (fun v _ => 5 - (intOf v).toNat)
  case atStart => exact ⟨1, 0, rfl, by omega, rfl, Lib.hid rfl, hk1⟩
  case round =>
    obtain ⟨i, j, hij, hj3, rfl, hj0, hk⟩ := hrel
    have cg := hk.cell
    by_cases hi : j < 3
    · have hi3 : (i : Int) ≤ 3 := by omega
      have hwd := Lib.hid (fun w' => words_any n hn i i w' rfl (by omega))
      have hwsz := Lib.hid (wordsB_size n i)
      have hwl : (wordsB n i).length ≤ 64 := by
        rw [wordsB_len]
        have h1 := Nat.pow_le_pow_left hn i
        have h2 : 4 ^ i ≤ 4 ^ 3 := Nat.pow_le_pow_right (by omega) (by omega)
        have h3 : (4 : Nat) ^ 3 = 64 := by decide
        omega
      have hlw := Lib.hid (fun t (ht : t ∈ wordsB n i) => letters_word hn ht)
      have hag := Lib.hid (fun k t => @ag_hit ws n j k t hj0.out)
      have hno := Lib.hid (@ag_none ws n j hj0.out)
      rw [hij] at hag hno
      have h3 := Lib.hid (fun t h h1 => @ag_three ws n i t h h1 (by omega))
      obtain ⟨l, hl⟩ : ∃ l, wordsB n i = l := ⟨_, rfl⟩
      rw [hl] at hwd hwsz hwl hlw hag hno
      clear hl
      go_wp2_with (first
        | (go_at_call 86; refine (hwd.out _).mono ?_; rintro e w2 ⟨v, rfl, hv, hb2⟩
           obtain ⟨A2, c2, rfl, hrl⟩ := hv.reads
           have hk2 := hk.call hb2
           clear hv cg))
      go_loopw [5] (fun v wr' => ∃ k : Nat, k ≤ l.length ∧ v = .int .i64 k ∧ Hid (∀ u ∈ l.take k, pfS ws (bts u) = false) ∧ Rk 40 w wr' g A n c ws B ∧ Below w2.heap.size w2 wr') (fun v _ => l.length - (intOf v).toNat)
      case atStart => exact ⟨0, by omega, rfl, Lib.hid (fun u hu => by simp at hu), hk2, Below.refl _ _⟩
      case round =>
        obtain ⟨k, hkl, rfl, hnp, hkr, hbe⟩ := hrel
        by_cases hlt : k < l.length
        · have hlti : (k : Int) < l.length := by omega
          obtain ⟨ad, t, rfl, hadb, hcell, htl⟩ := (hrl.later (Nat.le_refl _) hbe).at_ hlt
          have htm := List.mem_of_getElem? htl.out
          have hts := hwsz.out t htm
          have hpf := Lib.hid (fun (w' : World) B' h1 h2 => proof_any A n c ws t w' B' h1 h2 hn (hlw.out t htm) (by omega) hwsH.out)
          have cgr := hkr.cell
          have hadw : (ad.add k).block < wr.heap.size := by rw [block_of_add]; have := hbe.size; omega
          clear htm
          obtain ⟨q, hq⟩ : ∃ q, pfS ws (bts t) = q := ⟨_, rfl⟩
          have hqH := Lib.hid hq
          cases q with
          | true =>
            have hR := Lib.hid (h3.out t (hag.out k t htl.out hnp.out hq) (by omega))
            clear hq hts
            go_wp2_with (fail)
            go_region_held3 (fun w' => w'.cell? ⟨g, 0, none⟩ = some (.slice A n c) ∧ w'.cell? (ad.add k) = some (.string t) ∧ Rk 40 w w' g A n c ws B)
              (first | assumption | exact ⟨cgr, hcell, hkr⟩ | exact ⟨cgr, hcell, hkr.drew⟩)
              (first | (go_at_call 73; refine (hpf.out _ B hkr.drew.b hkr.drew.rs).mono ?_; rintro e w3 ⟨rfl, hb3⟩; rw [hqH.out]
                        have hS3 : w3.cell? ⟨g, 0, none⟩ = some (.slice A n c) ∧ w3.cell? (ad.add k) = some (.string t) ∧ Rk 40 w w3 g A n c ws B := ⟨(hkr.drew.call hb3).cell, (hb3.cell (p := ad.add k) hadw).trans hcell, hkr.drew.call hb3⟩))
            obtain ⟨_, hc3, hk3⟩ := hS3
            go_wp2_with (fail)
            go_ret
            exact ⟨by rw [hR.out]; rfl, hk3.be⟩
          | false =>
            have hnp2 := Lib.hid (show ∀ u ∈ l.take (k + 1), pfS ws (bts u) = false by
              intro u hu
              rw [List.take_add_one, htl.out, List.mem_append] at hu
              rcases hu with hu | hu
              · exact hnp.out u hu
              · simp at hu; subst hu; exact hq)
            clear hq hts
            go_wp2_with (fail)
            go_region_held3 (fun w' => w'.cell? ⟨g, 0, none⟩ = some (.slice A n c) ∧ w'.cell? (ad.add k) = some (.string t) ∧ Rk 40 w w' g A n c ws B)
              (first | assumption | exact ⟨cgr, hcell, hkr⟩ | exact ⟨cgr, hcell, hkr.drew⟩)
              (first | (go_at_call 73; refine (hpf.out _ B hkr.drew.b hkr.drew.rs).mono ?_; rintro e w3 ⟨rfl, hb3⟩; rw [hqH.out]
                        have hbe3 : Below w2.heap.size w2 w3 := (below_drewN hbe 1).trans (hb3.mono hbe.size)
                        have hS3 : w3.cell? ⟨g, 0, none⟩ = some (.slice A n c) ∧ w3.cell? (ad.add k) = some (.string t) ∧ Rk 40 w w3 g A n c ws B := ⟨(hkr.drew.call hb3).cell, (hb3.cell (p := ad.add k) hadw).trans hcell, hkr.drew.call hb3⟩))
            obtain ⟨_, _, hk3⟩ := hS3
            go_wp2_with (fail)
            go_roundw
            case rel => exact ⟨k + 1, by omega, by go_num, hnp2, hk3, hbe3⟩
            case measure => simp only [intOf]; omega
        · have hlti : ¬ (k : Int) < l.length := by omega
          have hag0 := Lib.hid (hno.out (fun t ht => hnp.out t (by rw [List.take_of_length_le (by omega)]; exact ht)))
          go_wp2_with (fail)
          go_roundw
          case rel => exact ⟨i + 1, i, rfl, by omega, by go_num, hag0, hkr⟩
          case measure => simp only [intOf]; omega
    · have hi3 : ¬ (i : Int) ≤ 3 := by omega
      have hR := Lib.hid (show agS ws n 3 = [] by rw [← hj0.out, show j = 3 by omega])
      go_wp2_with (fail)
      go_ret
      exact ⟨by rw [hR.out]; rfl, hk.be⟩
end Go.Proofs.Ytdaaiockkbolbaa
