/- Pairs are opened in turns as stated: the law returns true whatever the input, and each argument reads behind the call as it read before. Condition: the library's two tables of trailing zeros lie as their initialisers lay them (the card ties that to the program's text). -/
import Derived.Test.YtjhcemhnnkcjaaaDoorFrameC
import Derived.Test.YtjhcemhnnkcjaaaDoorLawPairs
namespace Go.Proofs.YtjhcemhnnkcjaaaDoor
open Go.ChangeShapes Go.WideShapes Go.ChangeAt Go.RowKit
section
variable {H : Type} {enc : TypeId × Value → H}
theorem open_list_at {W : World} {v : Value} {d : DataW H} {ps : List MemPlace} {fuel : Nat} (hf : DataW.trod enc Tryd.prog W 0 (fun _ => true) true fuel 22 [v] = some (d, ps)) :
    ∃ (A : Option Addr) (n c : Nat) (xs : List Int), v = .slice A n c ∧ n ≤ maxLen ∧ RInts W W.heap.size A n xs ∧
      ∀ (W' : World), Below W.heap.size W W' → ∀ sp : Nat → Bool, (∀ p ∈ ps, sp p.block = true) → ∀ k : Nat, DataW.trod enc Tryd.prog W' 0 sp true (k + 2) 22 [v] = some (d, ps) := by
  rcases open_ints Tryd.underlying22 Tryd.underlying3 (by kernel_rfl) hf with ⟨hc, hx⟩ | ⟨a, len, cap, zs, hc, _, hl, hm, hz, hx, hcell, hw⟩
  · obtain rfl : v = .slice none 0 0 := by simpa using hc
    obtain ⟨rfl, rfl⟩ : d = .nil ∧ ps = [] := by simpa using hx
    refine ⟨none, 0, 0, [], rfl, by decide, RInts.none_, fun W' _ sp _ k => ?_⟩
    rw [DataW.trod_step]
    unfold DataW.trodStep
    simp [Tryd.underlying22]
  · obtain rfl : v = .slice (some a) len cap := by simpa using hc
    obtain ⟨rfl, rfl⟩ : d = .slice (lits .i64 (zs.take len)) (lits .i64 (zs.drop len)) ∧ ps = MemPlace.row a zs.length := by simpa using hx
    rw [if_pos rfl] at hz
    refine ⟨some a, len, cap, zs.take len, rfl, Nat.le_trans hl hm, ?_, ?_⟩
    · refine ⟨by rw [ints_length, List.length_take]; omega, fun hn => ⟨a, rfl, ?_, ?_⟩⟩
      · have := cell_lt (hcell 0 (by omega))
        rwa [block_of_add] at this
      · intro j u hu
        have hj : j < (zs.take len).length := by rw [← ints_length]; exact (List.getElem?_eq_some_iff.1 hu).1
        rw [ints_get _ _ hj] at hu
        rw [List.length_take] at hj
        rw [hcell j (by omega), ← hu]
        simp [List.getD, show j < len by omega]
    · intro W' hb sp hsp k
      have hz2 : zs.length = (if sp a.block then cap else len) := by
        by_cases h0 : zs.length = 0
        · split <;> omega
        · have h1 : sp a.block = true := hsp (.cell a.block (a.off + 0)) (by
            rw [MemPlace.row, List.mem_map]
            exact ⟨0, List.mem_range.2 (by omega), rfl⟩)
          rw [h1, if_pos rfl]; exact hz
      refine shut_ints k Tryd.underlying22 Tryd.underlying3 (by kernel_rfl) (Nat.zero_le _) hl hm hz2 (fun i hi => ?_) hw
      rw [hb.cell (by have := cell_lt (hcell i hi); exact this)]
      exact hcell i hi
set_option maxRecDepth 100000 in
/-- an argument that is a pair of lists -/
theorem open_pair {W : World} {base : Nat} {v : Value} {d : DataW H} {ps : List MemPlace} (hval : Value.okWide Tryd.prog W .any base 40 v) (h : DataW.Trod enc Tryd.prog W 0 (fun _ => true) true 40 v d ps) :
    ∃ (A B : Option Addr) (n m c e : Nat) (xs ys : List Int), v = .agg (pairC A n c B m e) ∧ n ≤ maxLen ∧ m ≤ maxLen ∧ RInts W W.heap.size A n xs ∧ RInts W W.heap.size B m ys ∧
      ∀ (W' : World), Below W.heap.size W W' → ∀ sp : Nat → Bool, (∀ p ∈ ps, sp p.block = true) → DataW.Trod enc Tryd.prog W' 0 sp true 40 v d ps := by
  obtain ⟨cs, rfl, hsz⟩ := okWide_struct Tryd.underlying40 hval
  have hC : Tryd.prog.cellsOf 40 = 2 := by kernel_rfl
  have hC1 : Tryd.prog.cellsOf 22 = 1 := by kernel_rfl
  rw [hC] at hsz
  obtain ⟨v0, v1, rfl⟩ : ∃ v0 v1, cs = #[v0, v1] := by
    obtain ⟨l⟩ := cs
    match l, hsz with
    | [a, b], _ => exact ⟨a, b, rfl⟩
  obtain ⟨fuel, hf⟩ := h
  obtain ⟨y0, y1, k, hx, _, h0, h1⟩ := trod_struct2 Tryd.underlying40 hf
  rw [hC1] at h0 h1
  obtain ⟨rfl, rfl⟩ : d = .agg [y0.1, y1.1] ∧ ps = y0.2 ++ y1.2 := by simpa using hx
  obtain ⟨A, n, c, xs, rfl, hn, ha, hb0⟩ := open_list_at (v := v0) (d := y0.1) (ps := y0.2) h0
  obtain ⟨B, m, e, ys, rfl, hm, hb, hb1⟩ := open_list_at (v := v1) (d := y1.1) (ps := y1.2) h1
  refine ⟨A, B, n, m, c, e, xs, ys, rfl, hn, hm, ha, hb, fun W' hbe sp hsp => ⟨3, ?_⟩⟩
  exact trod_struct2_mk (y0 := y0) (y1 := y1) Tryd.underlying40 (by rw [hC]; rfl) (by rw [hC1]; exact hb0 W' hbe sp (fun p hp => hsp p (by simp [hp])) 0) (by rw [hC1]; exact hb1 W' hbe sp (fun p hp => hsp p (by simp [hp])) 0)
end
namespace Pairs
set_option maxRecDepth 100000 in
theorem contract (H : Type) (enc : TypeId × Value → H) (W : World) (base : Nat) (args : Array Value) (ds gs : List (DataW H)) (before : List MemPlace)
    (hval : ∀ (j : Nat) t v, Tryd.f6.params[j]? = some t → args[j]? = some v → Value.okWide Tryd.prog W .any base t v)
    (hW : DataW.Whole enc Tryd.prog Tryd.f6.params.toList Rows.claspPairsSpec.vars false W args.toList ds gs before) (hL : laidMetH Tryd.prog laidC W) :
    Calls Tryd.prog 6 args W fun e W' => ∃ v, e = .returned v ∧ Rows.claspPairsSpec.post enc Tryd.prog Tryd.f6 false true false false W args v W' := by
  have hW' := hW
  obtain ⟨p, q, hA0, hV, rfl, hfz, hnd⟩ := hW
  have hA : DataW.TrodAll enc Tryd.prog W 0 (fun _ => true) true Tryd.f6.params.toList args.toList ds p := hA0
  rw [Tryd.params6] at hA hval
  obtain ⟨v0, vs0, d0, ds0, p0, z0, ha0, rfl, rfl, h0, r0⟩ := trodAll_cons hA
  obtain ⟨rfl, rfl, rfl⟩ := trodAll_nil r0
  obtain rfl : args = #[v0] := Array.toList_inj.1 ha0
  obtain ⟨rfl, rfl⟩ := trodVars_none hV
  obtain ⟨A0, B0, n0, m0, c0, e0, xs0, ys0, rfl, hn0, hm0, ha0', hb0', hback0⟩ := open_pair (hval 0 40 v0 rfl rfl) h0
  clear hA0
  simp only [List.append_nil] at hW'
  refine (pairs_law A0 B0 n0 m0 c0 e0 xs0 ys0 W ha0' hb0' hn0 hm0 (tab_of_laid hL)).mono ?_
  rintro e W' ⟨rfl, hb⟩
  exact ⟨_, rfl, post_of_below (pa := p0 ++ ([])) (pv := []) hW' (fun _ _ _ => trodAll_cons_mk (shut_bool Tryd.underlying4 _) trodAll_mk0)
    (fun sp hsp => trodAll_cons_mk (hback0 W' hb sp hsp) trodAll_mk0) (fun _ _ => rfl) (by simp) hb
    (ok_one (by kernel_rfl) rfl (okWide_bool_mk Tryd.underlying4 _))⟩
abbrev inp : Array Value := #[.agg #[.slice none 0 0, .slice none 0 0]]
theorem laid_met (os : Os) : laidMet Tryd.prog laidC ((laidWorld os).forCall (fun _ _ => 0) ⟨#[], inp, []⟩).memory := laidMet_of_run' 70 (by kernel_rfl) (by kernel_rfl)
theorem reads (os : Os) {H : Type} (enc : TypeId × Value → H) : ∃ places, DataW.whole enc Tryd.prog ((laidWorld os).forCall (fun _ _ => 0) ⟨#[], inp, []⟩).memory Tryd.f6.params.toList Rows.claspPairsSpec.vars false inp.toList 8 = some ([.agg [.nil, .nil]], [], places) :=
  ⟨[], by kernel_rfl⟩
set_option maxRecDepth 100000 in
theorem lifted (os : Os) (started : os.Started) (H : Type) (enc : TypeId × Value → H) (F : Stop.Interp) :
    ReturnsInHanded {} Tryd.checked os 6 .any ((OpenSpec.ofChange Rows.claspPairsSpec).preRow enc Tryd.prog Tryd.f6 Rows.claspPairsRow.domain false Rows.claspPairsRow.laid) (((OpenSpec.ofChange Rows.claspPairsSpec).at F).post enc Tryd.prog Tryd.f6 false true false false) := by
  obtain ⟨places, hx⟩ := reads os enc
  refine returnsInHanded_of_row (C := Tryd.checked) (s := OpenSpec.ofChange Rows.claspPairsSpec) own started (by kernel_rfl) Tryd.func6
    (witness_row_at (enc := enc) (C := Tryd.checked) false (laidWorld os) inp rfl (by kernel_rfl) (by kernel_rfl) (by kernel_rfl)
      (OpenSpec.preRow_of_cond 8 hx (by kernel_rfl) (fun k hk => by cases hk) (by kernel_rfl) (laid_met os))) ?_
  intro W base args ds gs before hval hW _ _ _ hL _ _
  exact contract H enc W base args ds gs before hval hW hL
theorem said : Rows.ClaspPairsSaid :=
  OpenClaim.holds_of_cond 6 Tryd.f6 rfl rfl rfl rfl rfl rfl rfl ⟨rfl, rfl, rfl, rfl, rfl⟩ rfl rfl rfl rfl rfl (by kernel_rfl) Tryd.func6 (by kernel_rfl)
    (of_decide_eq_true (by kernel_rfl)) (by unfold Func.isWrapper; first | (rw [if_pos (by decide +kernel)]; kernel_rfl) | (rw [if_neg (by decide +kernel)]; exact ⟨rfl, rfl⟩))
    (fun os started H enc _ F => by rw [OpenClaim.pre_eq_preRow]; exact lifted os started H enc F)
theorem plain (f : FuncId) (fn : Func) (hf : Tryd.pinned.checked.prog.funcNamed "aigrette/aigrettelaw03.ClaspPairs" = some f) (hfn : Tryd.pinned.checked.prog.funcs[f]? = some fn) :
    false = Tryd.pinned.checked.prog.looks [] ∧ ∀ (j : Nat) t, fn.params[j]? = some t → Tryd.pinned.checked.prog.wantsStandIn t = false := by
  obtain rfl : f = 6 := Option.some.inj ((show Tryd.prog.funcNamed "aigrette/aigrettelaw03.ClaspPairs" = some 6 by kernel_rfl).symm.trans hf) |>.symm
  obtain rfl : fn = Tryd.f6 := (Option.some.inj (Tryd.func6.symm.trans hfn)).symm
  refine ⟨by kernel_rfl, fun j t ht => ?_⟩
  rw [Tryd.params6] at ht
  have hm : t = 40 := by have := Array.mem_of_getElem? ht; simpa using this
  subst hm
  exact (show Tryd.prog.wantsStandIn 40 = false by kernel_rfl)
theorem card : Rows.ClaspPairsCardSaid :=
  Claim7.holds_tied_plain_at .later [] _ _ _ _ said (fun _ h => by cases h) (by kernel_rfl) (fun _ h => by cases h) claspPairs_row_tie rfl ⟨rfl, rfl⟩ (by kernel_rfl) rfl plain (by kernel_rfl)
end Pairs
theorem claspPairs_holds : Rows.ClaspPairsCardSaid := Pairs.card
end Go.Proofs.YtjhcemhnnkcjaaaDoor
