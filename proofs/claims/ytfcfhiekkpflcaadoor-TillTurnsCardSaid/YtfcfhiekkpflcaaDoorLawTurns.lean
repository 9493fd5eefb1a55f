/- The law's TillTurns. (Printed by genlaw.py.) -/
import Derived.Test.YtfcfhiekkpflcaaDoorWorks
import Derived.Test.YtfcfhiekkpflcaaDoorRefB
import Derived.Test.YtfcfhiekkpflcaaDoorRefE
namespace Go.Proofs.YtfcfhiekkpflcaaDoor
open Go.RowKit
set_option maxRecDepth 100000 in
set_option maxHeartbeats 4000000 in
theorem turns_law (s : ByteArray) (b : Int) (w : World) : Calls Tryd.prog 5 #[.string s, .int .i64 b] w fun e w' => e = .returned (.bool true) ∧ Below w.heap.size w w' := by
  have hbe := Below.refl w.heap.size w
  by_cases h60 : (60 : Int) < s.size
  · go_enter Tryd.func5, Tryd.ntmps5
    go_wp2_with (first
      | (go_at_call 13; (with_reducible refine (works_any _).mono ?_); rintro e w' ⟨rfl, hb'⟩; replace hbe := hbe.trans (hb'.mono hbe.size)))
    go_ret
    exact ⟨rfl, hbe⟩
  · have hsz : s.size ≤ 60 := by omega
    have c0 := Lib.hid (fun w' => Number_any s b w')
    have c1 := Lib.hid (fun w' => rNumber_any s b w')
    have c2 := Lib.hid (fun w' => Turns_any s b w')
    have c3 := Lib.hid (fun w' => rTurns_any s b w')
    have hl : (turnL (bts s) b).length ≤ 1000000 := by unfold turnL; split <;> first | (have := turnN_len (stepsT 0 (bts s ++ bts s)) (bts s).length b (bts s).length; rw [bts_len] at this ⊢; omega) | simp
    obtain ⟨X, hX⟩ : ∃ X : List Int, turnL (bts s) b = X := ⟨_, rfl⟩
    obtain ⟨E, hE⟩ : ∃ E : Int, opT (bts s) b = E := ⟨_, rfl⟩
    obtain ⟨Y, hY⟩ : ∃ Y : Int, numV (bts s) b = Y := ⟨_, rfl⟩
    obtain ⟨G, hG⟩ : ∃ G : Int, coinE (bts s) b = G := ⟨_, rfl⟩
    rw [hX] at hl
    rw [hX, hE] at c2 c3
    rw [hY, hG] at c0 c1
    clear hX hE hY hG
    go_enter Tryd.func5, Tryd.ntmps5
    go_wp2_with (first
      | (go_at_call 29; (with_reducible refine (c0.out _).mono ?_); rintro e w' ⟨rfl, hb'⟩
         (try (replace h2 := h2.next hb')); (try (replace h3 := h3.next hb'))
         replace hbe := hbe.trans (hb'.mono hbe.size)
         clear hb')
      | (go_at_call 30; (with_reducible refine (c1.out _).mono ?_); rintro e w' ⟨rfl, hb'⟩
         (try (replace h2 := h2.next hb')); (try (replace h3 := h3.next hb'))
         replace hbe := hbe.trans (hb'.mono hbe.size)
         clear hb')
      | (go_at_call 31; (with_reducible refine (c2.out _).mono ?_); rintro e w' ⟨v2, rfl, ho', hb'⟩
         (try (replace h2 := h2.next hb')); (try (replace h3 := h3.next hb'))
         have h2 := ho'.rn
         replace hbe := hbe.trans (hb'.mono hbe.size)
         clear hb' ho')
      | (go_at_call 32; (with_reducible refine (c3.out _).mono ?_); rintro e w' ⟨v3, rfl, ho', hb'⟩
         (try (replace h2 := h2.next hb')); (try (replace h3 := h3.next hb'))
         have h3 := ho'.rn
         replace hbe := hbe.trans (hb'.mono hbe.size)
         clear hb' ho')
      | (go_at_call 20; (with_reducible refine (same_rn h2 h3 hl hl).mono ?_); rintro e w' ⟨rfl, hb'⟩
         rw [beq_self_eq_true]
         (try (replace h2 := h2.next hb')); (try (replace h3 := h3.next hb'))
         replace hbe := hbe.trans (hb'.mono hbe.size)
         clear hb')
      | (go_at_call 13; (with_reducible refine (works_any _).mono ?_); rintro e w' ⟨rfl, hb'⟩; replace hbe := hbe.trans (hb'.mono hbe.size)))
    go_ret
    exact ⟨rfl, hbe⟩
end Go.Proofs.YtfcfhiekkpflcaaDoor
