/- The law's CurlKnown: the other examples hold. (Printed by genex.py.) -/
import Derived.Test.YtdaaiockkbolbaaExK
import Derived.Test.YtdaaiockkbolbaaWorks
namespace Go.Proofs.Ytdaaiockkbolbaa
open Go.RowKit
theorem results_cell_one {P : Program} {fn : Func} {p : Tmp} {ty : TypeId} (h : fn.results = #[.cell p ty]) (tmps : Array Value) (w : World) (g : Nat) (t : TypeId) (cs : Array Value) (fr : Nat × Nat) (d : TypeDesc)
    (hp : tmps.getD p undef = .pointer (some ⟨g, 0, none⟩)) (hg : w.heap[g]? = some (.cells cs t fr))
    (hu : P.underlying ty = some d) (hd : (match d with | .struct _ | .array _ _ => true | _ => false) = true) (hi : (P.info? ty).map (·.size) = some cs.size) :
    (results fn tmps).run P w = .ok (.agg cs) w := by
  have hp' : tmps[p]?.getD undef = .pointer (some ⟨g, 0, none⟩) := by simpa using hp
  simp [results, h, hp', asAddr, run_loadVar_row w g t ty cs fr d hg hu hd hi]
theorem zero_ruleP (w : World) : (zeroValue 38).run Try.prog w = .ok (.agg #[.slice none 0 0]) w := Try.zeroValue38 w
set_option maxRecDepth 100000 in
set_option maxHeartbeats 4000000 in
theorem L_any (w : World) : Calls Try.prog 44 #[] w fun e w' => ∃ g, e = .returned (.agg #[.slice (some ⟨g, 0, none⟩) 3 3]) ∧ RStrs w' w'.heap.size (some ⟨g, 0, none⟩) 3 [⟨#[97, 98, 99, 98, 97, 99, 98, 99, 97, 98, 99, 98, 97]⟩, ⟨#[98, 99, 97, 99, 98, 97, 99, 97, 98, 99, 97, 99, 98]⟩, ⟨#[99, 97, 98, 97, 99, 98, 97, 98, 99, 97, 98, 97, 99]⟩] ∧ Below w.heap.size w w' := by
  go_enter Try.func44, Try.ntmps44
  go_wp2_with (first
    | (with_reducible show wpList _ _ _ (⟨_, .alloc 38, _, _, _, _⟩ :: _) _ _
       refine wpList_alloc_blk rfl 38 rfl _ zero_ruleP ?_
       intro w2 g2 hG2 hgr2 hge2
       have hb2 : Below w.heap.size w w2 := below_none (Below.refl _ _) hgr2 (Nat.le_refl _)
       clear hgr2)
    | (go_at_call 45; (with_reducible refine (w_rule3 _ _ _ _).mono ?_); rintro e w3 ⟨g, rfl, hr, hb3⟩
       have hG3 := hG2.callee hb3
       have hbe3 := hb2.trans (hb3.mono hb2.size)
       have hgl := hG3.lt
       clear hG2 hb2 hb3)
    | (with_reducible show wpList _ _ _ (⟨_, .store 38 _ _, _, _, _, _⟩ :: _) _ _
       refine wpList_store_blk rfl 38 _ _ rfl g2 #[.slice (some ⟨g, 0, none⟩) 3 3] rfl rfl 38 #[.slice none 0 0] hG3 (info_oneP _) rfl (by simp [Value.oneCell']) ?_
       intro w4 hG4 hgr4))
  have hbe4 := below_some hbe3 hgr4 hbe3.size hge2
  have hgne : g ≠ g2 := by
    rintro rfl
    obtain ⟨ad, t, e, _, hc, _⟩ := hr.at_ (k := 0) (by decide)
    obtain rfl : (⟨g, 0, none⟩ : Addr) = ad := by simpa using e
    have h2 := hG3.cell 0
    rw [add_zero_] at hc
    rw [hc] at h2
    simp at h2
  have hr4 : RStrs w4 w4.heap.size (some ⟨g, 0, none⟩) 3 [⟨#[97, 98, 99, 98, 97, 99, 98, 99, 97, 98, 99, 98, 97]⟩, ⟨#[98, 99, 97, 99, 98, 97, 99, 97, 98, 99, 97, 99, 98]⟩, ⟨#[99, 97, 98, 97, 99, 98, 97, 98, 99, 97, 98, 97, 99]⟩] := by
    refine ⟨hr.1, fun hn => ?_⟩
    obtain ⟨ad, e, hb, hc⟩ := hr.2 hn
    obtain rfl : (⟨g, 0, none⟩ : Addr) = ad := by simpa using e
    refine ⟨_, rfl, Nat.lt_of_lt_of_le hb hgr4.size, fun j u hu => ?_⟩
    rw [← hc j u hu]
    exact World.cell?_of_block (hgr4.block _ (by rw [block_of_add]; exact hb) (by rw [block_of_add]; intro e; exact hgne (by injection e)))
  exact bodyPost_ret (results_cell_one rfl _ _ g2 38 _ (0, 0) _ rfl hG4 Try.underlying38 rfl (info_oneP _)) rfl ⟨g, rfl, hr4, hbe4⟩
set_option maxRecDepth 100000 in
set_option maxHeartbeats 4000000 in
theorem known_law (w : World) : Calls Try.prog 10 #[] w fun e w' => e = .returned (.bool true) ∧ Below w.heap.size w w' := by
  have hbe := Below.refl w.heap.size w
  go_enter Try.func10, Try.ntmps10
  go_wp2_with (first
    | (go_at_call 45; (with_reducible refine (w_rule1 _ _).mono ?_); rintro e w' ⟨g, rfl, hr', hb'⟩
       have hr := hr'
       replace hbe := hbe.trans (hb'.mono hbe.size)
       clear hr' hb')
    | (go_at_call 45; (with_reducible refine (w_rule2 _ _ _).mono ?_); rintro e w' ⟨g, rfl, hr', hb'⟩
       have hr := hr'
       replace hbe := hbe.trans (hb'.mono hbe.size)
       clear hr' hb')
    | (go_at_call 45; (with_reducible refine (w_rule3 _ _ _ _).mono ?_); rintro e w' ⟨g, rfl, hr', hb'⟩
       have hr := hr'
       replace hbe := hbe.trans (hb'.mono hbe.size)
       clear hr' hb')
    | (go_at_call 13; (with_reducible refine (ex_k0 _).mono ?_); rintro e w' ⟨rfl, hb'⟩; replace hbe := hbe.trans (hb'.mono hbe.size); clear hb')
    | (go_at_call 13; (with_reducible refine (ex_k1 _).mono ?_); rintro e w' ⟨rfl, hb'⟩; replace hbe := hbe.trans (hb'.mono hbe.size); clear hb')
    | (go_at_call 19; (with_reducible refine (ex_k2 _).mono ?_); rintro e w' ⟨rfl, hb'⟩; replace hbe := hbe.trans (hb'.mono hbe.size); clear hb')
    | (go_at_call 19; (with_reducible refine (ex_k3 _).mono ?_); rintro e w' ⟨rfl, hb'⟩; replace hbe := hbe.trans (hb'.mono hbe.size); clear hb')
    | (go_at_call 19; (with_reducible refine (ex_k4 _).mono ?_); rintro e w' ⟨rfl, hb'⟩; replace hbe := hbe.trans (hb'.mono hbe.size); clear hb')
    | (go_at_call 21; (with_reducible refine (ex_k5 _).mono ?_); rintro e w' ⟨rfl, hb'⟩; replace hbe := hbe.trans (hb'.mono hbe.size); clear hb')
    | (go_at_call 23; (with_reducible refine (ex_k6 _).mono ?_); rintro e w' ⟨rfl, hb'⟩; replace hbe := hbe.trans (hb'.mono hbe.size); clear hb')
    | (go_at_call 28; (with_reducible refine (ex_k7 _ _ hr).mono ?_); rintro e w' ⟨rfl, hb'⟩; replace hbe := hbe.trans (hb'.mono hbe.size); clear hb'; clear hr)
    | (go_at_call 30; (with_reducible refine (ex_k8 _ _ hr).mono ?_); rintro e w' ⟨rfl, hb'⟩; replace hbe := hbe.trans (hb'.mono hbe.size); clear hb'; clear hr)
    | (go_at_call 30; (with_reducible refine (ex_k9 _ _ hr).mono ?_); rintro e w' ⟨rfl, hb'⟩; replace hbe := hbe.trans (hb'.mono hbe.size); clear hb'; clear hr)
    | (go_at_call 30; (with_reducible refine (ex_k10 _ _ hr).mono ?_); rintro e w' ⟨rfl, hb'⟩; replace hbe := hbe.trans (hb'.mono hbe.size); clear hb'; clear hr)
    | (go_at_call 36; (with_reducible refine (ex_k11 _ _ hr).mono ?_); rintro e w' ⟨rfl, hb'⟩; replace hbe := hbe.trans (hb'.mono hbe.size); clear hb'; clear hr)
    | (go_at_call 36; (with_reducible refine (ex_k12 _ _ hr).mono ?_); rintro e w' ⟨rfl, hb'⟩; replace hbe := hbe.trans (hb'.mono hbe.size); clear hb'; clear hr)
    | (go_at_call 36; (with_reducible refine (ex_k13 _ _ hr).mono ?_); rintro e w' ⟨rfl, hb'⟩; replace hbe := hbe.trans (hb'.mono hbe.size); clear hb'; clear hr)
    | (go_at_call 38; (with_reducible refine (ex_k14 _ _ hr).mono ?_); rintro e w' ⟨rfl, hb'⟩; replace hbe := hbe.trans (hb'.mono hbe.size); clear hb'; clear hr)
    | (go_at_call 26; (with_reducible refine (ex_k15 _ _ hr).mono ?_); rintro e w' ⟨rfl, hb'⟩; replace hbe := hbe.trans (hb'.mono hbe.size); clear hb'; clear hr)
    | (go_at_call 32; (with_reducible refine (ex_k16 _ _ hr).mono ?_); rintro e w' ⟨rfl, hb'⟩; replace hbe := hbe.trans (hb'.mono hbe.size); clear hb'; clear hr)
    | (go_at_call 32; (with_reducible refine (ex_k17 _ _ hr).mono ?_); rintro e w' ⟨rfl, hb'⟩; replace hbe := hbe.trans (hb'.mono hbe.size); clear hb'; clear hr)
    | (go_at_call 17; (with_reducible refine (ex_k18 _).mono ?_); rintro e w' ⟨rfl, hb'⟩; replace hbe := hbe.trans (hb'.mono hbe.size); clear hb')
    | (go_at_call 44; refine (L_any _).mono ?_; rintro e w' ⟨g, rfl, hr', hb'⟩
       have hr := hr'
       replace hbe := hbe.trans (hb'.mono hbe.size)
       clear hr' hb')
    | (go_at_call 12; refine (works_any _).mono ?_; rintro e w' ⟨rfl, hb'⟩; replace hbe := hbe.trans (hb'.mono hbe.size); clear hb'))
  go_ret
  exact ⟨rfl, hbe⟩
end Go.Proofs.Ytdaaiockkbolbaa
