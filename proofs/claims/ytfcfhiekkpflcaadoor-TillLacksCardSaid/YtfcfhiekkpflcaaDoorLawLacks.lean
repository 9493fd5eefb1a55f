/- The law's TillLacks. (Printed by genlaw.py.) -/
import Derived.Test.YtfcfhiekkpflcaaDoorWorks
import Derived.Test.YtfcfhiekkpflcaaDoorRefA
namespace Go.Proofs.YtfcfhiekkpflcaaDoor
open Go.RowKit
set_option maxRecDepth 100000 in
set_option maxHeartbeats 4000000 in
theorem lacks_law (s : ByteArray) (b : Int) (w : World) : Calls Tryd.prog 3 #[.string s, .int .i64 b] w fun e w' => e = .returned (.bool true) ∧ Below w.heap.size w w' := by
  have hbe := Below.refl w.heap.size w
  by_cases h60 : (60 : Int) < s.size
  · go_enter Tryd.func3, Tryd.ntmps3
    go_wp2_with (first
      | (go_at_call 13; (with_reducible refine (works_any _).mono ?_); rintro e w' ⟨rfl, hb'⟩; replace hbe := hbe.trans (hb'.mono hbe.size)))
    go_ret
    exact ⟨rfl, hbe⟩
  · have hsz : s.size ≤ 60 := by omega
    have c0 := Lib.hid (fun w' => Coins_any s b w')
    have c1 := Lib.hid (fun w' => rCoins_any s b w')
    have c2 := Lib.hid (fun w' => Lacks_any s b w')
    have c3 := Lib.hid (fun w' => rLacks_any s b w')
    have c4 := Lib.hid (fun w' => Needs_any s w')
    have c5 := Lib.hid (fun w' => rNeeds_any s w')
    have c6 := Lib.hid (fun w' => Check_any s w')
    have c7 := Lib.hid (fun w' => rCheck_any s w')
    have hl : (coinL (bts s) b).length ≤ 1000000 := by unfold coinL; split <;> simp [steps_len, bts_len] <;> omega
    obtain ⟨X, hX⟩ : ∃ X : List Int, coinL (bts s) b = X := ⟨_, rfl⟩
    obtain ⟨E, hE⟩ : ∃ E : Int, coinE (bts s) b = E := ⟨_, rfl⟩
    obtain ⟨Y, hY⟩ : ∃ Y : Int, lackV (bts s) b = Y := ⟨_, rfl⟩
    obtain ⟨G, hG⟩ : ∃ G : Int, lackE (bts s) b = G := ⟨_, rfl⟩
    obtain ⟨Z, hZ⟩ : ∃ Z : Int, needV (bts s) = Z := ⟨_, rfl⟩
    obtain ⟨K, hK⟩ : ∃ K : Int, chkT (bts s) = K := ⟨_, rfl⟩
    rw [hX] at hl
    rw [hX, hE] at c0 c1
    rw [hY, hG] at c2 c3
    rw [hZ, hK] at c4 c5
    rw [hK] at c6 c7
    clear hX hE hY hG hZ hK
    go_enter Tryd.func3, Tryd.ntmps3
    go_wp2_with (first
      | (go_at_call 14; (with_reducible refine (c0.out _).mono ?_); rintro e w' ⟨v0, rfl, ho', hb'⟩
         (try (replace h0 := h0.next hb')); (try (replace h1 := h1.next hb'))
         have h0 := ho'.rn
         replace hbe := hbe.trans (hb'.mono hbe.size)
         clear hb' ho')
      | (go_at_call 15; (with_reducible refine (c1.out _).mono ?_); rintro e w' ⟨v1, rfl, ho', hb'⟩
         (try (replace h0 := h0.next hb')); (try (replace h1 := h1.next hb'))
         have h1 := ho'.rn
         replace hbe := hbe.trans (hb'.mono hbe.size)
         clear hb' ho')
      | (go_at_call 16; (with_reducible refine (c2.out _).mono ?_); rintro e w' ⟨rfl, hb'⟩
         (try (replace h0 := h0.next hb')); (try (replace h1 := h1.next hb'))
         replace hbe := hbe.trans (hb'.mono hbe.size)
         clear hb')
      | (go_at_call 17; (with_reducible refine (c3.out _).mono ?_); rintro e wz ⟨rfl, hwz⟩; replace hwz := hwz.symm; subst hwz)
      | (go_at_call 18; (with_reducible refine (c4.out _).mono ?_); rintro e w' ⟨rfl, hb'⟩
         (try (replace h0 := h0.next hb')); (try (replace h1 := h1.next hb'))
         replace hbe := hbe.trans (hb'.mono hbe.size)
         clear hb')
      | (go_at_call 19; (with_reducible refine (c5.out _).mono ?_); rintro e wz ⟨rfl, hwz⟩; replace hwz := hwz.symm; subst hwz)
      | (go_at_call 21; (with_reducible refine (c6.out _).mono ?_); rintro e w' ⟨rfl, hb'⟩
         (try (replace h0 := h0.next hb')); (try (replace h1 := h1.next hb'))
         replace hbe := hbe.trans (hb'.mono hbe.size)
         clear hb')
      | (go_at_call 22; (with_reducible refine (c7.out _).mono ?_); rintro e wz ⟨rfl, hwz⟩; replace hwz := hwz.symm; subst hwz)
      | (go_at_call 20; (with_reducible refine (same_rn h0 h1 hl hl).mono ?_); rintro e w' ⟨rfl, hb'⟩
         rw [beq_self_eq_true]
         (try (replace h0 := h0.next hb')); (try (replace h1 := h1.next hb'))
         replace hbe := hbe.trans (hb'.mono hbe.size)
         clear hb')
      | (go_at_call 13; (with_reducible refine (works_any _).mono ?_); rintro e w' ⟨rfl, hb'⟩; replace hbe := hbe.trans (hb'.mono hbe.size)))
    go_ret
    exact ⟨rfl, hbe⟩
end Go.Proofs.YtfcfhiekkpflcaaDoor
