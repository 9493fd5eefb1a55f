/- This seat's arguments: words, rules, numbers; what every row asks. -/
import Derived.Test.YtdaaiockkbolbaaFrameG
import Derived.Test.YtdaaiockkbolbaaRule
import Derived.Test.YtdaaiockkbolbaaRows
import Derived.Carry
import Derived.ChangeMaps5
namespace Go.Proofs.Ytdaaiockkbolbaa
open Go.ChangeShapes Go.WideShapes Go.ChangeAt Go.RowKit
theorem own : ownKnob Try.prog.godebug = none := by kernel_rfl
theorem laidOut : laidOutB Try.prog = true := by kernel_rfl
section
variable {H : Type} {enc : TypeId × Value → H}
/-- what an argument reads behind the call -/
theorem back_of {t : TypeId} (hr : Try.prog.readableRec t = true) (ht : t < Try.prog.types.size) {W W' : World} {v : Value} {d : DataW H} {ps : List MemPlace} (h : DataW.Trod enc Try.prog W 0 (fun _ => true) true t v d ps) (hb : Below W.heap.size W W') (hlt : ∀ x ∈ ps, x.block < W.heap.size)
    (sp : Nat → Bool) (hsp : ∀ p ∈ ps, sp p.block = true) : DataW.Trod enc Try.prog W' 0 sp true t v d ps :=
  WideElems.Trod_stays laidOut hr ht h (fun x hx => hb.same (hlt x hx)) hsp
theorem open_words_at {W : World} {v : Value} {d : DataW H} {ps : List MemPlace} {fuel : Nat} (hf : DataW.trod enc Try.prog W 0 (fun _ => true) true fuel 36 [v] = some (d, ps)) :
    ∃ (A : Option Addr) (n c : Nat) (ws : List ByteArray), v = .slice A n c ∧ n ≤ maxLen ∧ RStrs W W.heap.size A n ws := by
  rcases Deep.open_strs Try.underlying36 Try.underlying9 (by kernel_rfl) hf with ⟨hc, _⟩ | ⟨a, len, cap, m, Sx, hc, _, hl, hm, hmm, _, hcell⟩
  · obtain rfl : v = .slice none 0 0 := by simpa using hc
    exact ⟨none, 0, 0, [], rfl, by decide, RStrs.none_⟩
  · obtain rfl : v = .slice (some a) len cap := by simpa using hc
    rw [if_pos rfl] at hmm
    refine ⟨some a, len, cap, (List.range len).map Sx, rfl, Nat.le_trans hl hm, by simp [strsV_length], fun hn => ⟨a, rfl, ?_, fun j u hu => ?_⟩⟩
    · have := cell_lt (hcell 0 (by omega)).1
      rwa [block_of_add] at this
    · have hj := (List.getElem?_eq_some_iff.1 hu).1
      rw [strsV_length, List.length_map, List.length_range] at hj
      rw [(hcell j (by omega)).1, ← hu]
      simp [strsV, hj]
set_option maxRecDepth 100000 in
/-- an argument that is a rule -/
theorem open_rule {W : World} {base : Nat} {v : Value} {d : DataW H} {ps : List MemPlace} (hval : Value.okWide Try.prog W .any base 38 v) (h : DataW.Trod enc Try.prog W 0 (fun _ => true) true 38 v d ps) :
    ∃ (A : Option Addr) (n c : Nat) (ws : List ByteArray), v = .agg #[.slice A n c] ∧ n ≤ maxLen ∧ RStrs W W.heap.size A n ws := by
  obtain ⟨cs, rfl, hsz⟩ := okWide_struct Try.underlying38 hval
  have hC : Try.prog.cellsOf 38 = 1 := by kernel_rfl
  have hC1 : Try.prog.cellsOf 36 = 1 := by kernel_rfl
  rw [hC] at hsz
  obtain ⟨v0, rfl⟩ : ∃ v0, cs = #[v0] := by
    obtain ⟨l⟩ := cs
    match l, hsz with
    | [a], _ => exact ⟨a, rfl⟩
  obtain ⟨fuel, hf⟩ := h
  obtain ⟨y0, k, _, _, h0⟩ := trod_struct1 Try.underlying38 hf
  rw [hC1] at h0
  obtain ⟨A, n, c, ws, rfl, hn, hr⟩ := open_words_at (v := v0) (d := y0.1) (ps := y0.2) h0
  exact ⟨A, n, c, ws, rfl, hn, hr⟩
end
end Go.Proofs.Ytdaaiockkbolbaa
