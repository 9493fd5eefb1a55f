/- The law's closure in TillCycles. -/
import Derived.Test.YtfcfhiekkpflcaaDoorMadeQ
import Derived.Test.YtfcfhiekkpflcaaDoorRefB
namespace Go.Proofs.YtfcfhiekkpflcaaDoor
open Go.RowKit
set_option maxRecDepth 100000 in
set_option maxHeartbeats 4000000 in
theorem turnsF_any (s : ByteArray) (g : Nat) (keep : Int) (hs : s.size ≤ 16) (hk : 0 ≤ keep) (w : World) (hG : Blk w g 9 #[.string s]) : Calls Tryd.prog 41 #[.int .i64 keep, .pointer (some ⟨g, 0, none⟩)] w (RetI (keepN (bts s) keep s.size) w) := by
  have cg := hG.cell 0
  go_enter Tryd.func41, Tryd.ntmps41
  go_wp2_with (fail)
  go_loopw [4, 13] (fun o v wr => ∃ k : Nat, k ≤ s.size ∧ v = .int .i64 k ∧ OwnI wr w.heap.size o (keepN (bts s) keep k) ∧ Below w.heap.size w wr) (fun _ v _ => s.size - (intOf v).toNat)
  case atStart => exact ⟨0, by omega, rfl, OwnI.nil _ _, Below.refl _ _⟩
  case round =>
    obtain ⟨k, hkk, rfl, ho, hbe⟩ := hrel
    obtain ⟨wa, rfl⟩ : ∃ x, x = wr := ⟨wr, rfl⟩
    by_cases hlt : k < s.size
    · have hlti : (k : Int) < s.size := by omega
      have hGa := hG.callee hbe
      have cga := hGa.cell 0
      obtain ⟨t, ht⟩ : ∃ t : ByteArray, s.extract k s.size ++ s.extract 0 k = t := ⟨_, rfl⟩
      have hbt : bts t = (bts s).drop k ++ (bts s).take k := by
        rw [← ht, bts_append, bts_extract, bts_extract, List.drop_zero, ← bts_len, List.take_length]
      have hts : t.size = s.size := by rw [← bts_len, hbt, List.length_append, List.length_drop, List.length_take, bts_len]; omega
      have hadd : ∀ w', (Op.stringOp .add (s.extract k s.size) (s.extract 0 k)).run Tryd.prog w' = .ok (.string t) w' := fun w' => by
        have hs1 : (s.extract k s.size).size ≤ 16 := by rw [← bts_len, bts_extract, List.length_drop, List.length_take, bts_len]; omega
        have hs2 : (s.extract 0 k).size ≤ 16 := by rw [← bts_len, bts_extract, List.length_drop, List.length_take, bts_len]; omega
        rw [run_string_add w' _ _ (by omega) (by omega), ht]
      have hrun := Lib.hid (fun w' => run_any t 0 (by omega) (by omega) w')
      obtain ⟨q, hq⟩ : ∃ q, lacksT (bts t) 0 = q := ⟨_, rfl⟩
      obtain ⟨L, hL⟩ : ∃ L, stepsT 0 (bts t) = L := ⟨_, rfl⟩
      have hLl : L.length = s.size := by rw [← hL, steps_len, bts_len, hts]
      rw [hq, hL] at hrun
      have hgo := keepsT_go (bts s) keep k hk
      rw [← hbt, hq, hL] at hgo
      have hgoH := Lib.hid hgo
      obtain ⟨d, hd⟩ : ∃ d, decide (q < 0) = d := ⟨_, rfl⟩
      rw [hd] at hgoH
      clear hbt ht hq hgo hL
      have hglt := hGa.lt
      go_wp2_with (fail)
      go_region_held3 (fun w' => w'.cell? ⟨g, 0, none⟩ = some (.string s))
        (first | assumption | exact cga)
        (first | (go_at_call 42; refine (hrun.out _).mono ?_; rintro e w2 ⟨v2, rfl, ho2, hb2⟩
                  have hS2 : w2.cell? ⟨g, 0, none⟩ = some (.string s) := (hb2.cell (p := ⟨g, 0, none⟩) hglt).trans cga
                  obtain ⟨A2, c2, hv2, hr2⟩ := ho2.reads
                  rw [hLl] at hv2 hr2
                  subst hv2))
      have hb3 : Below w.heap.size w w2 := (below_drewN hbe 1).trans (hb2.mono hbe.size)
      have hoo := (ho.drewN 1).callee hb2
      go_wp2_with (fail)
      go_loopw [8, 31] (fun c v wr2 => ∃ (i : Nat) (p : Bool), i ≤ s.size ∧ v = .int .i64 i ∧ c = .bool p ∧ Hid ((d && (L.take i).all fun x => decide (keep ≤ x)) = p) ∧ w2 = wr2) (fun _ v _ => s.size - (intOf v).toNat)
      case atStart => exact ⟨0, d, by omega, rfl, rfl, Lib.hid (by simp), rfl⟩
      case round =>
        obtain ⟨i, p, hi, rfl, rfl, hp, hw3⟩ := hrel
        subst hw3
        by_cases hlt2 : i < s.size
        · have hlti2 : (i : Int) < s.size := by omega
          obtain ⟨ad, x, rfl, _, hcell, hx⟩ := hr2.at_ hlt2
          have hal := Lib.hid (all_snoc (p := fun x => decide (keep ≤ x)) hx.out)
          cases p with
          | false =>
            have hN := Lib.hid (show (d && (L.take (i + 1)).all fun x => decide (keep ≤ x)) = false by rw [hal.out, ← Bool.and_assoc, hp.out]; rfl)
            go_wp2_with (fail)
            go_roundw
            case rel => exact ⟨i + 1, false, by omega, by go_num, rfl, hN, by first | rfl | trivial⟩
            case measure => simp only [intOf]; omega
          | true =>
            obtain ⟨g, hg⟩ : ∃ g, decide (keep ≤ x) = g := ⟨_, rfl⟩
            have hN := Lib.hid (show (d && (L.take (i + 1)).all fun x => decide (keep ≤ x)) = g by rw [hal.out, ← Bool.and_assoc, hp.out, ← hg]; rfl)
            go_wp2_with (fail)
            go_roundw
            case rel => exact ⟨i + 1, g, by omega, by go_num, by first | rfl | (rw [hg]), hN, by first | rfl | trivial⟩
            case measure => simp only [intOf]; omega
        · have hlti2 : ¬ (i : Int) < s.size := by omega
          have hpe := hp.out
          rw [List.take_of_length_le (by rw [hLl]; omega), hgoH.out] at hpe
          have hN := Lib.hid (keepN_succ (bts s) keep k)
          rw [hpe] at hN
          have hpl : (keepN (bts s) keep k).length ≤ 1000000000 := by have := keepN_len (bts s) keep k; omega
          clear hpe
          cases p with
          | true =>
            rw [if_pos rfl] at hN
            go_wp2_with (first
              | (at_builtin
                 refine wpList_push rfl _ _ rfl rfl (hoo.none_ (World.grownBy_alloc w2 _ none)) w2.heap.size 1 (k : Int) rfl (Blk.new w2 _ _) hpl (by have := hb3.size; show _ ≤ (w2.heap.push _).size; simp; omega) ?_
                 intro g6 cap6 w6 ho6 hgr6 _ _
                 have hb6 := (hb3.alloc hb3.size (.cells #[.int .i64 (k : Int)] 3)).grown hgr6 (by have := hb3.size; show _ ≤ (w2.heap.push _).size; simp; omega) (fun g hg => hoo.ge hg)))
            go_roundw
            case rel => exact ⟨k + 1, by omega, by go_num, by rw [hN.out]; simpa [OwnI] using ho6, hb6⟩
            case measure => simp only [intOf]; omega
          | false =>
            rw [if_neg (by decide), List.append_nil] at hN
            go_wp2_with (fail)
            go_roundw
            case rel => exact ⟨k + 1, by omega, by go_num, by rw [hN.out]; exact hoo, hb3⟩
            case measure => simp only [intOf]; omega
    · have hlti : ¬ (k : Int) < s.size := by omega
      obtain rfl : k = s.size := by omega
      go_wp2_with (fail)
      go_ret
      exact ⟨_, rfl, ho, hbe⟩
end Go.Proofs.YtfcfhiekkpflcaaDoor
