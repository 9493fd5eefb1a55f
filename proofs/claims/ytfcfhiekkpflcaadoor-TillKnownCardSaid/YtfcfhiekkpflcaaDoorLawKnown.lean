/- The law's TillKnown: the other examples hold. (Printed by genex.py.) -/
import Derived.Test.YtfcfhiekkpflcaaDoorWorks
namespace Go.Proofs.YtfcfhiekkpflcaaDoor
open Go.RowKit
set_option maxRecDepth 100000 in
set_option maxHeartbeats 4000000 in
theorem known_law (w : World) : Calls Tryd.prog 10 #[] w fun e w' => e = .returned (.bool true) ∧ Below w.heap.size w w' := by
  have hbe := Below.refl w.heap.size w
  have hl11 : ([0, 2, 1] : List Int).length = 3 := rfl
  have hm11 : ([0, 2, 1] : List Int).length ≤ 1000000 := by decide
  have hn11 := hm11
  have hc11 := Lib.hid (show (#[.int .i64 0, .int .i64 2, .int .i64 1] : Array Value) = intArr [0, 2, 1] from rfl)
  go_enter Tryd.func10, Tryd.ntmps10
  go_wp2_with (first
    | (go_at_call 14; (with_reducible refine (ex_k0 _).mono ?_); rintro e w' ⟨v0, rfl, hn', hb'⟩
       try (replace h0 := h0.next hb')
       try (replace h9 := h9.next hb')
       try (replace h11 := h11.next hb')
       have h0 := hn'
       replace hbe := hbe.trans (hb'.mono hbe.size)
       clear hb' hn')
    | (go_at_call 16; (with_reducible refine (ex_k1 _).mono ?_); rintro e w' ⟨rfl, hb'⟩
       try (replace h0 := h0.next hb')
       try (replace h9 := h9.next hb')
       try (replace h11 := h11.next hb')
       replace hbe := hbe.trans (hb'.mono hbe.size)
       clear hb')
    | (go_at_call 18; (with_reducible refine (ex_k2 _).mono ?_); rintro e w' ⟨rfl, hb'⟩
       try (replace h0 := h0.next hb')
       try (replace h9 := h9.next hb')
       try (replace h11 := h11.next hb')
       replace hbe := hbe.trans (hb'.mono hbe.size)
       clear hb')
    | (go_at_call 23; (with_reducible refine (ex_k3 _).mono ?_); rintro e w' ⟨rfl, hb'⟩
       try (replace h0 := h0.next hb')
       try (replace h9 := h9.next hb')
       try (replace h11 := h11.next hb')
       replace hbe := hbe.trans (hb'.mono hbe.size)
       clear hb')
    | (go_at_call 23; (with_reducible refine (ex_k4 _).mono ?_); rintro e w' ⟨rfl, hb'⟩
       try (replace h0 := h0.next hb')
       try (replace h9 := h9.next hb')
       try (replace h11 := h11.next hb')
       replace hbe := hbe.trans (hb'.mono hbe.size)
       clear hb')
    | (go_at_call 23; (with_reducible refine (ex_k5 _).mono ?_); rintro e w' ⟨rfl, hb'⟩
       try (replace h0 := h0.next hb')
       try (replace h9 := h9.next hb')
       try (replace h11 := h11.next hb')
       replace hbe := hbe.trans (hb'.mono hbe.size)
       clear hb')
    | (go_at_call 25; (with_reducible refine (ex_k6 _).mono ?_); rintro e w' ⟨rfl, hb'⟩
       try (replace h0 := h0.next hb')
       try (replace h9 := h9.next hb')
       try (replace h11 := h11.next hb')
       replace hbe := hbe.trans (hb'.mono hbe.size)
       clear hb')
    | (go_at_call 27; (with_reducible refine (ex_k7 _).mono ?_); rintro e w' ⟨rfl, hb'⟩
       try (replace h0 := h0.next hb')
       try (replace h9 := h9.next hb')
       try (replace h11 := h11.next hb')
       replace hbe := hbe.trans (hb'.mono hbe.size)
       clear hb')
    | (go_at_call 27; (with_reducible refine (ex_k8 _).mono ?_); rintro e w' ⟨rfl, hb'⟩
       try (replace h0 := h0.next hb')
       try (replace h9 := h9.next hb')
       try (replace h11 := h11.next hb')
       replace hbe := hbe.trans (hb'.mono hbe.size)
       clear hb')
    | (go_at_call 31; (with_reducible refine (ex_k9 _).mono ?_); rintro e w' ⟨v9, rfl, hn', hb'⟩; obtain ⟨A9, c9, rfl, hr9⟩ := hn'; clear hr9; simp only [List.length_nil]; have hn' := True.intro
       try (replace h0 := h0.next hb')
       try (replace h9 := h9.next hb')
       try (replace h11 := h11.next hb')
       replace hbe := hbe.trans (hb'.mono hbe.size)
       clear hb' hn')
    | (go_at_call 35; (with_reducible refine (ex_k10 _).mono ?_); rintro e w' ⟨rfl, hb'⟩
       try (replace h0 := h0.next hb')
       try (replace h9 := h9.next hb')
       try (replace h11 := h11.next hb')
       replace hbe := hbe.trans (hb'.mono hbe.size)
       clear hb')
    | (go_at_call 37; (with_reducible refine (ex_k11 _).mono ?_); rintro e w' ⟨v11, rfl, hn', hb'⟩
       try (replace h0 := h0.next hb')
       try (replace h9 := h9.next hb')
       try (replace h11 := h11.next hb')
       have h11 := hn'
       replace hbe := hbe.trans (hb'.mono hbe.size)
       clear hb' hn')
    | (go_at_call 21; (with_reducible refine (ex_k12 _).mono ?_); rintro e w' ⟨rfl, hb'⟩
       try (replace h0 := h0.next hb')
       try (replace h9 := h9.next hb')
       try (replace h11 := h11.next hb')
       replace hbe := hbe.trans (hb'.mono hbe.size)
       clear hb')
    | (go_at_call 21; (with_reducible refine (ex_k13 _).mono ?_); rintro e w' ⟨rfl, hb'⟩
       try (replace h0 := h0.next hb')
       try (replace h9 := h9.next hb')
       try (replace h11 := h11.next hb')
       replace hbe := hbe.trans (hb'.mono hbe.size)
       clear hb')
    | (go_at_call 21; (with_reducible refine (ex_k14 _).mono ?_); rintro e w' ⟨rfl, hb'⟩
       try (replace h0 := h0.next hb')
       try (replace h9 := h9.next hb')
       try (replace h11 := h11.next hb')
       replace hbe := hbe.trans (hb'.mono hbe.size)
       clear hb')
    | (go_at_call 43; (with_reducible refine (list_any _ _).mono ?_); rintro e wz ⟨rfl, hwz⟩; replace hwz := hwz.symm; subst hwz)
    | (go_at_call 20; (with_reducible refine (same_rn (h11.alloc _) (RN.new _ [0, 2, 1] _ _ _ _ hl11 hc11.out) hm11 hn11).mono ?_); rintro e w' ⟨rfl, hb'⟩
       rw [show (([0, 2, 1] : List Int) == [0, 2, 1]) = true from rfl]
       try (replace h0 := (h0.alloc _).next hb')
       try (replace h9 := (h9.alloc _).next hb')
       try (replace h11 := (h11.alloc _).next hb')
       replace hbe := (hbe.alloc hbe.size _).trans (hb'.mono (by have := hbe.size; simp; omega))
       clear hb')
    | (go_at_call 13; (with_reducible refine (works_any _).mono ?_); rintro e w' ⟨rfl, hb'⟩; replace hbe := hbe.trans (hb'.mono hbe.size)))
  go_ret
  exact ⟨rfl, hbe⟩
end Go.Proofs.YtfcfhiekkpflcaaDoor
