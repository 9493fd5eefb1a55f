/- The law's works: the examples hold. (Printed by genex.py.) -/
import Derived.Test.YtdaaiockkbolbaaExW
import Derived.Deep.QuietTactic
namespace Go.Proofs.Ytdaaiockkbolbaa
open Go.RowKit
set_option maxRecDepth 100000 in
set_option maxHeartbeats 1000000 in
theorem works_any (w : World) : Calls Try.prog 12 #[] w fun e w' => e = .returned (.bool true) ∧ Below w.heap.size w w' := by
  have hbe := Below.refl w.heap.size w
  go_enter Try.func12, Try.ntmps12
  go_wp2_with (first
    | (go_at_call 45; (with_reducible refine (w_rule1 _ _).mono ?_); rintro e w' ⟨g, rfl, hr', hb'⟩
       have hr := hr'
       replace hbe := hbe.trans (hb'.mono hbe.size)
       clear hr' hb')
    | (go_at_call 45; (with_reducible refine (w_rule2 _ _ _).mono ?_); rintro e w' ⟨g, rfl, hr', hb'⟩
       have hr := hr'
       replace hbe := hbe.trans (hb'.mono hbe.size)
       clear hr' hb')
    | (go_at_call 45; (with_reducible refine (w_rule3 _ _ _ _).mono ?_); rintro e w' ⟨g, rfl, hr', hb'⟩
       have hr := hr'
       replace hbe := hbe.trans (hb'.mono hbe.size)
       clear hr' hb')
    | (go_at_call 13; (with_reducible refine (ex_w0 _).mono ?_); rintro e w' ⟨rfl, hb'⟩; replace hbe := hbe.trans (hb'.mono hbe.size); clear hb')
    | (go_at_call 15; (with_reducible refine (ex_w1 _).mono ?_); rintro e w' ⟨rfl, hb'⟩; replace hbe := hbe.trans (hb'.mono hbe.size); clear hb')
    | (go_at_call 19; (with_reducible refine (ex_w2 _).mono ?_); rintro e w' ⟨rfl, hb'⟩; replace hbe := hbe.trans (hb'.mono hbe.size); clear hb')
    | (go_at_call_of 21 (Value.int .i64 8); (with_reducible refine (ex_w3 _).mono ?_); rintro e w' ⟨rfl, hb'⟩; replace hbe := hbe.trans (hb'.mono hbe.size); clear hb')
    | (go_at_call 23; (with_reducible refine (ex_w4 _).mono ?_); rintro e w' ⟨rfl, hb'⟩; replace hbe := hbe.trans (hb'.mono hbe.size); clear hb')
    | (go_at_call 26; (with_reducible refine (ex_w5 _ _ hr).mono ?_); rintro e w' ⟨rfl, hb'⟩; replace hbe := hbe.trans (hb'.mono hbe.size); clear hb'; clear hr)
    | (go_at_call_of 38 (Value.string ⟨#[97, 98, 98, 97]⟩); (with_reducible refine (ex_w6 _ _ hr).mono ?_); rintro e w' ⟨rfl, hb'⟩; replace hbe := hbe.trans (hb'.mono hbe.size); clear hb'; clear hr)
    | (go_at_call 28; (with_reducible refine (ex_w7 _ _ hr).mono ?_); rintro e w' ⟨rfl, hb'⟩; replace hbe := hbe.trans (hb'.mono hbe.size); clear hb'; clear hr)
    | (go_at_call 28; (with_reducible refine (ex_w8 _ _ hr).mono ?_); rintro e w' ⟨rfl, hb'⟩; replace hbe := hbe.trans (hb'.mono hbe.size); clear hb'; clear hr)
    | (go_at_call 30; (with_reducible refine (ex_w9 _ _ hr).mono ?_); rintro e w' ⟨rfl, hb'⟩; replace hbe := hbe.trans (hb'.mono hbe.size); clear hb'; clear hr)
    | (go_at_call 36; (with_reducible refine (ex_w10 _ _ hr).mono ?_); rintro e w' ⟨rfl, hb'⟩; replace hbe := hbe.trans (hb'.mono hbe.size); clear hb'; clear hr)
    | (go_at_call_of 21 (Value.int .i64 4); (with_reducible refine (ex_w11 _).mono ?_); rintro e w' ⟨rfl, hb'⟩; replace hbe := hbe.trans (hb'.mono hbe.size); clear hb')
    | (go_at_call_of 38 (Value.string ⟨#[97, 97, 98, 98]⟩); (with_reducible refine (ex_w12 _ _ hr).mono ?_); rintro e w' ⟨rfl, hb'⟩; replace hbe := hbe.trans (hb'.mono hbe.size); clear hb'; clear hr)
    | (go_at_call_of 32 (Value.string ⟨#[97, 98, 99]⟩); (with_reducible refine (ex_w13 _ _ hr).mono ?_); rintro e w' ⟨rfl, hb'⟩; replace hbe := hbe.trans (hb'.mono hbe.size); clear hb'; clear hr)
    | (go_at_call_of 32 (Value.string ⟨#[97, 98, 97]⟩); (with_reducible refine (ex_w14 _ _ hr).mono ?_); rintro e w' ⟨rfl, hb'⟩; replace hbe := hbe.trans (hb'.mono hbe.size); clear hb'; clear hr))
  go_ret
  exact ⟨rfl, hbe⟩
end Go.Proofs.Ytdaaiockkbolbaa
