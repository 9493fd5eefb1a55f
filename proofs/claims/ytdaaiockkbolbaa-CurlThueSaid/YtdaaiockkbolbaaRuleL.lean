/- The law's rule: a list of words as a rule. -/
import Derived.Test.YtdaaiockkbolbaaBack
import Derived.Test.YtdaaiockkbolbaaRefBack
import Derived.Test.YtdaaiockkbolbaaGrow
import Derived.Test.YtdaaiockkbolbaaRefGrow
import Derived.Test.YtdaaiockkbolbaaKeeps
import Derived.Test.YtdaaiockkbolbaaPlainC
namespace Go.Proofs.Ytdaaiockkbolbaa
open Go.RowKit
set_option maxRecDepth 100000 in
set_option maxHeartbeats 1000000 in
theorem rule_any (A : Option Addr) (n c : Nat) (w : World) : Calls Try.prog 45 #[.slice A n c] w fun e w' => e = .returned (.agg #[.slice A n c]) ∧ Below w.heap.size w w' := by
  go_enter Try.func45, Try.ntmps45
  go_wp2_with (fail)
  refine bodyPost_ret (v := .agg #[.slice A n c]) (by simp [results, Try.results45, go_sem]) rfl ⟨rfl, ?_⟩
  exact (Below.refl w.heap.size w).alloc (Nat.le_refl _) _
theorem RStrs.of_new {w : World} (ws : List ByteArray) {n : Nat} (hn : ws.length = n) : RStrs (w.alloc (.cells (strsV ws).toArray 9)) (w.heap.size + 1) (some ⟨w.heap.size, 0, none⟩) n ws := by
  refine ⟨by rw [strsV_length, hn, Nat.mul_one], fun _ => ⟨_, rfl, Nat.lt_succ_self _, fun j u hu => ?_⟩⟩
  rw [Addr.add_lit]
  rw [(Blk.new w 9 (strsV ws).toArray).cell]
  simpa using hu
theorem w_rule {n : Nat} (w : World) (ws : List ByteArray) (hn : ws.length = n) : Calls Try.prog 45 #[.slice (some ⟨w.heap.size, 0, none⟩) n n] (w.alloc (.cells (strsV ws).toArray 9))
    fun e w' => ∃ g, e = .returned (.agg #[.slice (some ⟨g, 0, none⟩) n n]) ∧ RStrs w' w'.heap.size (some ⟨g, 0, none⟩) n ws ∧ Below w.heap.size w w' := by
  refine (rule_any _ n n _).mono ?_
  rintro e w' ⟨rfl, hb⟩
  have hs : (w.alloc (.cells (strsV ws).toArray 9)).heap.size = w.heap.size + 1 := by simp
  rw [hs] at hb
  exact ⟨_, rfl, ((RStrs.of_new ws hn).below hb).more (by have := hb.size; rw [hs] at this; exact this), ((Below.refl _ w).alloc (Nat.le_refl _) _).trans (hb.mono (by omega))⟩
theorem w_rule1 (w : World) (x : ByteArray) : Calls Try.prog 45 #[.slice (some ⟨w.heap.size, 0, none⟩) 1 1] (w.alloc (.cells #[.string x] 9))
    fun e w' => ∃ g, e = .returned (.agg #[.slice (some ⟨g, 0, none⟩) 1 1]) ∧ RStrs w' w'.heap.size (some ⟨g, 0, none⟩) 1 [x] ∧ Below w.heap.size w w' := w_rule w [x] rfl
theorem w_rule2 (w : World) (x y : ByteArray) : Calls Try.prog 45 #[.slice (some ⟨w.heap.size, 0, none⟩) 2 2] (w.alloc (.cells #[.string x, .string y] 9))
    fun e w' => ∃ g, e = .returned (.agg #[.slice (some ⟨g, 0, none⟩) 2 2]) ∧ RStrs w' w'.heap.size (some ⟨g, 0, none⟩) 2 [x, y] ∧ Below w.heap.size w w' := w_rule w [x, y] rfl
theorem w_rule3 (w : World) (x y z : ByteArray) : Calls Try.prog 45 #[.slice (some ⟨w.heap.size, 0, none⟩) 3 3] (w.alloc (.cells #[.string x, .string y, .string z] 9))
    fun e w' => ∃ g, e = .returned (.agg #[.slice (some ⟨g, 0, none⟩) 3 3]) ∧ RStrs w' w'.heap.size (some ⟨g, 0, none⟩) 3 [x, y, z] ∧ Below w.heap.size w w' := w_rule w [x, y, z] rfl
end Go.Proofs.Ytdaaiockkbolbaa
