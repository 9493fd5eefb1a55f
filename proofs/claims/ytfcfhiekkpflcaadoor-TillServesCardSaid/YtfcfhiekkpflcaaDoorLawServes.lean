/- The law's TillServes. (Printed by genlaw.py.) -/
import Derived.Test.YtfcfhiekkpflcaaDoorWorks
import Derived.Test.YtfcfhiekkpflcaaDoorRefB
import Derived.Test.YtfcfhiekkpflcaaDoorRefG
namespace Go.Proofs.YtfcfhiekkpflcaaDoor
open Go.RowKit
set_option maxRecDepth 100000 in
set_option maxHeartbeats 4000000 in
theorem serves_law (s : ByteArray) (b : Int) (w : World) : Calls Tryd.prog 6 #[.string s, .int .i64 b] w fun e w' => e = .returned (.bool true) ∧ Below w.heap.size w w' := by
  have hbe := Below.refl w.heap.size w
  by_cases h60 : (60 : Int) < s.size
  · go_enter Tryd.func6, Tryd.ntmps6
    go_wp2_with (first
      | (go_at_call 13; (with_reducible refine (works_any _).mono ?_); rintro e w' ⟨rfl, hb'⟩; replace hbe := hbe.trans (hb'.mono hbe.size)))
    go_ret
    exact ⟨rfl, hbe⟩
  · have hsz : s.size ≤ 60 := by omega
    have c0 := Lib.hid (fun w' => Pairs_any s w')
    have c1 := Lib.hid (fun w' => rPairs_any s w')
    have c2 := Lib.hid (fun w' => Exchange_any s b w')
    have c3 := Lib.hid (fun w' => rExchange_any s b w')
    have c4 := Lib.hid (fun w' => Served_any s b w')
    have c5 := Lib.hid (fun w' => rServed_any s b w')
    have hl : (pairL (bts s)).length ≤ 1000000 := by have := pairL_len (bts s); rw [bts_len] at this; omega
    have hm : (serL (bts s) b).length ≤ 1000000 := by have := serL_len (bts s) b; rw [bts_len] at this; omega
    obtain ⟨X, hX⟩ : ∃ X : List (Nat × Nat), pairL (bts s) = X := ⟨_, rfl⟩
    obtain ⟨E, hE⟩ : ∃ E : Int, pairE (bts s) = E := ⟨_, rfl⟩
    obtain ⟨Y, hY⟩ : ∃ Y : ByteArray, ⟨(exV (bts s) b).toArray⟩ = Y := ⟨_, rfl⟩
    obtain ⟨G, hG⟩ : ∃ G : Int, lackE (bts s) b = G := ⟨_, rfl⟩
    obtain ⟨Z, hZ⟩ : ∃ Z : List Int, serL (bts s) b = Z := ⟨_, rfl⟩
    obtain ⟨K, hK⟩ : ∃ K : Int, serE (bts s) b = K := ⟨_, rfl⟩
    rw [hX] at hl
    rw [hZ] at hm
    rw [hX, hE] at c0 c1
    rw [hY, hG] at c2 c3
    rw [hZ, hK] at c4 c5
    clear hX hE hY hG hZ hK
    go_enter Tryd.func6, Tryd.ntmps6
    go_wp2_with (first
      | (go_at_call 33; (with_reducible refine (c0.out _).mono ?_); rintro e w' ⟨v0, rfl, ho', hb'⟩
         (try (replace h0 := h0.next hb')); (try (replace h1 := h1.next hb')); (try (replace h4 := h4.next hb')); (try (replace h5 := h5.next hb'))
         have h0 := ho'.rpn
         replace hbe := hbe.trans (hb'.mono hbe.size)
         clear hb' ho')
      | (go_at_call 34; (with_reducible refine (c1.out _).mono ?_); rintro e w' ⟨v1, rfl, ho', hb'⟩
         (try (replace h0 := h0.next hb')); (try (replace h1 := h1.next hb')); (try (replace h4 := h4.next hb')); (try (replace h5 := h5.next hb'))
         have h1 := ho'.rpn
         replace hbe := hbe.trans (hb'.mono hbe.size)
         clear hb' ho')
      | (go_at_call 35; (with_reducible refine (c2.out _).mono ?_); rintro e w' ⟨rfl, hb'⟩
         (try (replace h0 := h0.next hb')); (try (replace h1 := h1.next hb')); (try (replace h4 := h4.next hb')); (try (replace h5 := h5.next hb'))
         replace hbe := hbe.trans (hb'.mono hbe.size)
         clear hb')
      | (go_at_call 36; (with_reducible refine (c3.out _).mono ?_); rintro e wz ⟨rfl, hwz⟩; replace hwz := hwz.symm; subst hwz)
      | (go_at_call 37; (with_reducible refine (c4.out _).mono ?_); rintro e w' ⟨v4, rfl, ho', hb'⟩
         (try (replace h0 := h0.next hb')); (try (replace h1 := h1.next hb')); (try (replace h4 := h4.next hb')); (try (replace h5 := h5.next hb'))
         have h4 := ho'.rn
         replace hbe := hbe.trans (hb'.mono hbe.size)
         clear hb' ho')
      | (go_at_call 38; (with_reducible refine (c5.out _).mono ?_); rintro e w' ⟨v5, rfl, ho', hb'⟩
         (try (replace h0 := h0.next hb')); (try (replace h1 := h1.next hb')); (try (replace h4 := h4.next hb')); (try (replace h5 := h5.next hb'))
         have h5 := ho'.rn
         replace hbe := hbe.trans (hb'.mono hbe.size)
         clear hb' ho')
      | (go_at_call 39; (with_reducible refine (pairs_rn h0 h1 hl hl).mono ?_); rintro e w' ⟨rfl, hb'⟩
         rw [beq_self_eq_true]
         (try (replace h0 := h0.next hb')); (try (replace h1 := h1.next hb')); (try (replace h4 := h4.next hb')); (try (replace h5 := h5.next hb'))
         replace hbe := hbe.trans (hb'.mono hbe.size)
         clear hb')
      | (go_at_call 20; (with_reducible refine (same_rn h4 h5 hm hm).mono ?_); rintro e w' ⟨rfl, hb'⟩
         rw [beq_self_eq_true]
         (try (replace h0 := h0.next hb')); (try (replace h1 := h1.next hb')); (try (replace h4 := h4.next hb')); (try (replace h5 := h5.next hb'))
         replace hbe := hbe.trans (hb'.mono hbe.size)
         clear hb')
      | (go_at_call 13; (with_reducible refine (works_any _).mono ?_); rintro e w' ⟨rfl, hb'⟩; replace hbe := hbe.trans (hb'.mono hbe.size)))
    go_ret
    exact ⟨rfl, hbe⟩
end Go.Proofs.YtfcfhiekkpflcaaDoor
