/- The law's TillCounts. (Printed by genlaw.py.) -/
import Derived.Test.YtfcfhiekkpflcaaDoorWorks
import Derived.Test.YtfcfhiekkpflcaaDoorRefD
namespace Go.Proofs.YtfcfhiekkpflcaaDoor
open Go.RowKit
set_option maxRecDepth 100000 in
set_option maxHeartbeats 4000000 in
theorem counts_law (c : Int) (n : Int) (b : Int) (k : Int) (w : World) : Calls Tryd.prog 4 #[.int .i64 c, .int .i64 n, .int .i64 b, .int .i64 k] w fun e w' => e = .returned (.bool true) ∧ Below w.heap.size w w' := by
  have hbe := Below.refl w.heap.size w
  have c0 := Lib.hid (fun w' => Count_any c n b w')
  have c1 := Lib.hid (fun w' => rCount_any c n b w')
  have c2 := Lib.hid (fun w' => First_any c n b w')
  have c3 := Lib.hid (fun w' => rFirst_any c n b w')
  have c4 := Lib.hid (fun w' => At_any c n b k w')
  have c5 := Lib.hid (fun w' => rAt_any c n b k w')
  obtain ⟨X, hX⟩ : ∃ X : Int, cntV c n b = X := ⟨_, rfl⟩
  obtain ⟨E, hE⟩ : ∃ E : Int, cntE c n b = E := ⟨_, rfl⟩
  obtain ⟨Y, hY⟩ : ∃ Y : ByteArray, ⟨(firV c n b).toArray⟩ = Y := ⟨_, rfl⟩
  obtain ⟨G, hG⟩ : ∃ G : Int, firE c n b = G := ⟨_, rfl⟩
  obtain ⟨Z, hZ⟩ : ∃ Z : ByteArray, ⟨(atV c n b k).toArray⟩ = Z := ⟨_, rfl⟩
  obtain ⟨K, hK⟩ : ∃ K : Int, atE c n b k = K := ⟨_, rfl⟩
  rw [hX, hE] at c0 c1
  rw [hY, hG] at c2 c3
  rw [hZ, hK] at c4 c5
  clear hX hE hY hG hZ hK
  go_enter Tryd.func4, Tryd.ntmps4
  go_wp2_with (first
    | (go_at_call 23; (with_reducible refine (c0.out _).mono ?_); rintro e wz ⟨rfl, hwz⟩; replace hwz := hwz.symm; subst hwz)
    | (go_at_call 24; (with_reducible refine (c1.out _).mono ?_); rintro e w' ⟨rfl, hb'⟩
       skip
       replace hbe := hbe.trans (hb'.mono hbe.size)
       clear hb')
    | (go_at_call 25; (with_reducible refine (c2.out _).mono ?_); rintro e w' ⟨rfl, hb'⟩
       skip
       replace hbe := hbe.trans (hb'.mono hbe.size)
       clear hb')
    | (go_at_call 26; (with_reducible refine (c3.out _).mono ?_); rintro e w' ⟨rfl, hb'⟩
       skip
       replace hbe := hbe.trans (hb'.mono hbe.size)
       clear hb')
    | (go_at_call 27; (with_reducible refine (c4.out _).mono ?_); rintro e w' ⟨rfl, hb'⟩
       skip
       replace hbe := hbe.trans (hb'.mono hbe.size)
       clear hb')
    | (go_at_call 28; (with_reducible refine (c5.out _).mono ?_); rintro e w' ⟨rfl, hb'⟩
       skip
       replace hbe := hbe.trans (hb'.mono hbe.size)
       clear hb')
    | (go_at_call 13; (with_reducible refine (works_any _).mono ?_); rintro e w' ⟨rfl, hb'⟩; replace hbe := hbe.trans (hb'.mono hbe.size)))
  go_ret
  exact ⟨rfl, hbe⟩
end Go.Proofs.YtfcfhiekkpflcaaDoor
