/- The law's works: the examples hold. (Printed by genex.py.) -/
import Derived.Test.YtfcfhiekkpflcaaDoorEx
namespace Go.Proofs.YtfcfhiekkpflcaaDoor
open Go.RowKit
set_option maxRecDepth 100000 in
set_option maxHeartbeats 4000000 in
theorem works_any (w : World) : Calls Tryd.prog 13 #[] w fun e w' => e = .returned (.bool true) ∧ Below w.heap.size w w' := by
  have hbe := Below.refl w.heap.size w
  have hl0 : ([1, 2, 1, 2, 1, 0] : List Int).length = 6 := rfl
  have hm0 : ([1, 2, 1, 2, 1, 0] : List Int).length ≤ 1000000 := by decide
  have hn0 := hm0
  have hc0 := Lib.hid (show (#[.int .i64 1, .int .i64 2, .int .i64 1, .int .i64 2, .int .i64 1, .int .i64 0] : Array Value) = intArr [1, 2, 1, 2, 1, 0] from rfl)
  have hl7 : ([2] : List Int).length = 1 := rfl
  have hm7 : ([2] : List Int).length ≤ 1000000 := by decide
  have hn7 := hm7
  have hc7 := Lib.hid (show (#[.int .i64 2] : Array Value) = intArr [2] from rfl)
  have hl8 : ([0, 2, 3] : List Int).length = 3 := rfl
  have hm8 : ([0, 2, 3] : List Int).length ≤ 1000000 := by decide
  have hn8 := hm8
  have hc8 := Lib.hid (show (#[.int .i64 0, .int .i64 2, .int .i64 3] : Array Value) = intArr [0, 2, 3] from rfl)
  have hl9 : ([(1, 2), (3, 4), (0, 5)] : List (Nat × Nat)).length = 3 := rfl
  have hm9 : ([(1, 2), (3, 4), (0, 5)] : List (Nat × Nat)).length ≤ 1000000 := by decide
  have hn9 := hm9
  have hc9 := Lib.hid (show (#[.int .i64 1, .int .i64 2, .int .i64 3, .int .i64 4, .int .i64 0, .int .i64 5] : Array Value) = (pairsV [(1, 2), (3, 4), (0, 5)]).toArray from rfl)
  have hl11 : ([1, 0, 2, 3] : List Int).length = 4 := rfl
  have hm11 : ([1, 0, 2, 3] : List Int).length ≤ 1000000 := by decide
  have hn11 := hm11
  have hc11 := Lib.hid (show (#[.int .i64 1, .int .i64 0, .int .i64 2, .int .i64 3] : Array Value) = intArr [1, 0, 2, 3] from rfl)
  go_enter Tryd.func13, Tryd.ntmps13
  go_wp2_with (first
    | (go_at_call 14; (with_reducible refine (ex_w0 _).mono ?_); rintro e w' ⟨v0, rfl, hn', hb'⟩
       try (replace h0 := h0.next hb')
       try (replace h7 := h7.next hb')
       try (replace h8 := h8.next hb')
       try (replace h9 := h9.next hb')
       try (replace h11 := h11.next hb')
       try (replace h12 := h12.next hb')
       have h0 := hn'
       replace hbe := hbe.trans (hb'.mono hbe.size)
       clear hb' hn')
    | (go_at_call 16; (with_reducible refine (ex_w1 _).mono ?_); rintro e w' ⟨rfl, hb'⟩
       try (replace h0 := h0.next hb')
       try (replace h7 := h7.next hb')
       try (replace h8 := h8.next hb')
       try (replace h9 := h9.next hb')
       try (replace h11 := h11.next hb')
       try (replace h12 := h12.next hb')
       replace hbe := hbe.trans (hb'.mono hbe.size)
       clear hb')
    | (go_at_call 18; (with_reducible refine (ex_w2 _).mono ?_); rintro e w' ⟨rfl, hb'⟩
       try (replace h0 := h0.next hb')
       try (replace h7 := h7.next hb')
       try (replace h8 := h8.next hb')
       try (replace h9 := h9.next hb')
       try (replace h11 := h11.next hb')
       try (replace h12 := h12.next hb')
       replace hbe := hbe.trans (hb'.mono hbe.size)
       clear hb')
    | (go_at_call 23; (with_reducible refine (ex_w3 _).mono ?_); rintro e w' ⟨rfl, hb'⟩
       try (replace h0 := h0.next hb')
       try (replace h7 := h7.next hb')
       try (replace h8 := h8.next hb')
       try (replace h9 := h9.next hb')
       try (replace h11 := h11.next hb')
       try (replace h12 := h12.next hb')
       replace hbe := hbe.trans (hb'.mono hbe.size)
       clear hb')
    | (go_at_call 25; (with_reducible refine (ex_w4 _).mono ?_); rintro e w' ⟨rfl, hb'⟩
       try (replace h0 := h0.next hb')
       try (replace h7 := h7.next hb')
       try (replace h8 := h8.next hb')
       try (replace h9 := h9.next hb')
       try (replace h11 := h11.next hb')
       try (replace h12 := h12.next hb')
       replace hbe := hbe.trans (hb'.mono hbe.size)
       clear hb')
    | (go_at_call 27; (with_reducible refine (ex_w5 _).mono ?_); rintro e w' ⟨rfl, hb'⟩
       try (replace h0 := h0.next hb')
       try (replace h7 := h7.next hb')
       try (replace h8 := h8.next hb')
       try (replace h9 := h9.next hb')
       try (replace h11 := h11.next hb')
       try (replace h12 := h12.next hb')
       replace hbe := hbe.trans (hb'.mono hbe.size)
       clear hb')
    | (go_at_call 29; (with_reducible refine (ex_w6 _).mono ?_); rintro e w' ⟨rfl, hb'⟩
       try (replace h0 := h0.next hb')
       try (replace h7 := h7.next hb')
       try (replace h8 := h8.next hb')
       try (replace h9 := h9.next hb')
       try (replace h11 := h11.next hb')
       try (replace h12 := h12.next hb')
       replace hbe := hbe.trans (hb'.mono hbe.size)
       clear hb')
    | (go_at_call 31; (with_reducible refine (ex_w7 _).mono ?_); rintro e w' ⟨v7, rfl, hn', hb'⟩
       try (replace h0 := h0.next hb')
       try (replace h7 := h7.next hb')
       try (replace h8 := h8.next hb')
       try (replace h9 := h9.next hb')
       try (replace h11 := h11.next hb')
       try (replace h12 := h12.next hb')
       have h7 := hn'
       replace hbe := hbe.trans (hb'.mono hbe.size)
       clear hb' hn')
    | (go_at_call 31; (with_reducible refine (ex_w8 _).mono ?_); rintro e w' ⟨v8, rfl, hn', hb'⟩
       try (replace h0 := h0.next hb')
       try (replace h7 := h7.next hb')
       try (replace h8 := h8.next hb')
       try (replace h9 := h9.next hb')
       try (replace h11 := h11.next hb')
       try (replace h12 := h12.next hb')
       have h8 := hn'
       replace hbe := hbe.trans (hb'.mono hbe.size)
       clear hb' hn')
    | (go_at_call 33; (with_reducible refine (ex_w9 _).mono ?_); rintro e w' ⟨v9, rfl, hn', hb'⟩
       try (replace h0 := h0.next hb')
       try (replace h7 := h7.next hb')
       try (replace h8 := h8.next hb')
       try (replace h9 := h9.next hb')
       try (replace h11 := h11.next hb')
       try (replace h12 := h12.next hb')
       have h9 := hn'
       replace hbe := hbe.trans (hb'.mono hbe.size)
       clear hb' hn')
    | (go_at_call 35; (with_reducible refine (ex_w10 _).mono ?_); rintro e w' ⟨rfl, hb'⟩
       try (replace h0 := h0.next hb')
       try (replace h7 := h7.next hb')
       try (replace h8 := h8.next hb')
       try (replace h9 := h9.next hb')
       try (replace h11 := h11.next hb')
       try (replace h12 := h12.next hb')
       replace hbe := hbe.trans (hb'.mono hbe.size)
       clear hb')
    | (go_at_call 37; (with_reducible refine (ex_w11 _).mono ?_); rintro e w' ⟨v11, rfl, hn', hb'⟩
       try (replace h0 := h0.next hb')
       try (replace h7 := h7.next hb')
       try (replace h8 := h8.next hb')
       try (replace h9 := h9.next hb')
       try (replace h11 := h11.next hb')
       try (replace h12 := h12.next hb')
       have h11 := hn'
       replace hbe := hbe.trans (hb'.mono hbe.size)
       clear hb' hn')
    | (go_at_call 37; (with_reducible refine (ex_w12 _).mono ?_); rintro e w' ⟨v12, rfl, hn', hb'⟩
       try (replace h0 := h0.next hb')
       try (replace h7 := h7.next hb')
       try (replace h8 := h8.next hb')
       try (replace h9 := h9.next hb')
       try (replace h11 := h11.next hb')
       try (replace h12 := h12.next hb')
       have h12 := hn'
       replace hbe := hbe.trans (hb'.mono hbe.size)
       clear hb' hn')
    | (go_at_call 29; (with_reducible refine (ex_w13 _).mono ?_); rintro e w' ⟨rfl, hb'⟩
       try (replace h0 := h0.next hb')
       try (replace h7 := h7.next hb')
       try (replace h8 := h8.next hb')
       try (replace h9 := h9.next hb')
       try (replace h11 := h11.next hb')
       try (replace h12 := h12.next hb')
       replace hbe := hbe.trans (hb'.mono hbe.size)
       clear hb')
    | (go_at_call 43; (with_reducible refine (list_any _ _).mono ?_); rintro e wz ⟨rfl, hwz⟩; replace hwz := hwz.symm; subst hwz)
    | (go_at_call 20; (with_reducible refine (same_rn (h0.alloc _) (RN.new _ [1, 2, 1, 2, 1, 0] _ _ _ _ hl0 hc0.out) hm0 hn0).mono ?_); rintro e w' ⟨rfl, hb'⟩
       rw [show (([1, 2, 1, 2, 1, 0] : List Int) == [1, 2, 1, 2, 1, 0]) = true from rfl]
       try (replace h0 := (h0.alloc _).next hb')
       try (replace h7 := (h7.alloc _).next hb')
       try (replace h8 := (h8.alloc _).next hb')
       try (replace h9 := (h9.alloc _).next hb')
       try (replace h11 := (h11.alloc _).next hb')
       try (replace h12 := (h12.alloc _).next hb')
       replace hbe := (hbe.alloc hbe.size _).trans (hb'.mono (by have := hbe.size; simp; omega))
       clear hb')
    | (go_at_call 20; (with_reducible refine (same_rn (h7.alloc _) (RN.new _ [2] _ _ _ _ hl7 hc7.out) hm7 hn7).mono ?_); rintro e w' ⟨rfl, hb'⟩
       rw [show (([2] : List Int) == [2]) = true from rfl]
       try (replace h0 := (h0.alloc _).next hb')
       try (replace h7 := (h7.alloc _).next hb')
       try (replace h8 := (h8.alloc _).next hb')
       try (replace h9 := (h9.alloc _).next hb')
       try (replace h11 := (h11.alloc _).next hb')
       try (replace h12 := (h12.alloc _).next hb')
       replace hbe := (hbe.alloc hbe.size _).trans (hb'.mono (by have := hbe.size; simp; omega))
       clear hb')
    | (go_at_call 20; (with_reducible refine (same_rn (h8.alloc _) (RN.new _ [0, 2, 3] _ _ _ _ hl8 hc8.out) hm8 hn8).mono ?_); rintro e w' ⟨rfl, hb'⟩
       rw [show (([0, 2, 3] : List Int) == [0, 2, 3]) = true from rfl]
       try (replace h0 := (h0.alloc _).next hb')
       try (replace h7 := (h7.alloc _).next hb')
       try (replace h8 := (h8.alloc _).next hb')
       try (replace h9 := (h9.alloc _).next hb')
       try (replace h11 := (h11.alloc _).next hb')
       try (replace h12 := (h12.alloc _).next hb')
       replace hbe := (hbe.alloc hbe.size _).trans (hb'.mono (by have := hbe.size; simp; omega))
       clear hb')
    | (go_at_call 39; (with_reducible refine (pairs_rn (h9.alloc _) (RPN.new _ [(1, 2), (3, 4), (0, 5)] _ _ _ _ hl9 hc9.out) hm9 hn9).mono ?_); rintro e w' ⟨rfl, hb'⟩
       rw [show ([(1, 2), (3, 4), (0, 5)] == [(1, 2), (3, 4), (0, 5)]) = true from rfl]
       try (replace h0 := (h0.alloc _).next hb')
       try (replace h7 := (h7.alloc _).next hb')
       try (replace h8 := (h8.alloc _).next hb')
       try (replace h9 := (h9.alloc _).next hb')
       try (replace h11 := (h11.alloc _).next hb')
       try (replace h12 := (h12.alloc _).next hb')
       replace hbe := (hbe.alloc hbe.size _).trans (hb'.mono (by have := hbe.size; simp; omega))
       clear hb')
    | (go_at_call 20; (with_reducible refine (same_rn (h11.alloc _) (RN.new _ [1, 0, 2, 3] _ _ _ _ hl11 hc11.out) hm11 hn11).mono ?_); rintro e w' ⟨rfl, hb'⟩
       rw [show (([1, 0, 2, 3] : List Int) == [1, 0, 2, 3]) = true from rfl]
       try (replace h0 := (h0.alloc _).next hb')
       try (replace h7 := (h7.alloc _).next hb')
       try (replace h8 := (h8.alloc _).next hb')
       try (replace h9 := (h9.alloc _).next hb')
       try (replace h11 := (h11.alloc _).next hb')
       try (replace h12 := (h12.alloc _).next hb')
       replace hbe := (hbe.alloc hbe.size _).trans (hb'.mono (by have := hbe.size; simp; omega))
       clear hb'))
  go_ret
  exact ⟨rfl, hbe⟩
end Go.Proofs.YtfcfhiekkpflcaaDoor
