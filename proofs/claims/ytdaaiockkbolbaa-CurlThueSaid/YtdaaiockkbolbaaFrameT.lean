/- An argument that is a Twist: three bytes and a row of them. -/
import Derived.Test.YtdaaiockkbolbaaFrameS
import Derived.Test.YtdaaiockkbolbaaMade
namespace Go.Proofs.Ytdaaiockkbolbaa
open Go.ChangeShapes Go.WideShapes Go.ChangeAt Go.RowKit
theorem take_one {α : Type} {l : List α} {i : Nat} {v : α} (h : (l.drop i).take 1 = [v]) : l[i]? = some v := by
  have := congrArg (fun m : List α => m[0]?) h
  simpa [List.getElem?_take] using this
section
variable {H : Type} {enc : TypeId × Value → H}
theorem byte_at {W : World} {n i : Nat} {l : List Value} {y : DataW H × List MemPlace} (h : DataW.trod enc Try.prog W 0 (fun _ => true) true n 5 ((l.drop i).take 1) = some y) : ∃ a : Nat, a ≤ 255 ∧ l[i]? = some (.int .u8 (a : Int)) := by
  obtain ⟨m, hm, _, hw⟩ := DataW.trod_int Try.underlying5 h
  have hb : 0 ≤ m ∧ m ≤ 255 := by simpa [Lit.wf, IntKind.min, IntKind.max, IntKind.signed, IntKind.bits] using hw
  exact ⟨m.toNat, by omega, by rw [take_one hm, show ((m.toNat : Nat) : Int) = m by omega]⟩
set_option maxRecDepth 100000 in
/-- an argument that is a Twist -/
theorem open_twist {W : World} {base : Nat} {v : Value} {d : DataW H} {ps : List MemPlace} (hval : Value.okWide Try.prog W .any base 69 v) (h : DataW.Trod enc Try.prog W 0 (fun _ => true) true 69 v d ps) :
    ∃ (cs : Array Value) (a b c : Nat), v = .agg cs ∧ TwistC cs a b c := by
  obtain ⟨cs, rfl, hsz⟩ := okWide_struct Try.underlying69 hval
  have hC : Try.prog.cellsOf 69 = 27 := by kernel_rfl
  have hC1 : Try.prog.cellsOf 5 = 1 := by kernel_rfl
  have hC24 : Try.prog.cellsOf 67 = 24 := by kernel_rfl
  rw [hC] at hsz
  obtain ⟨fuel, hf⟩ := h
  obtain ⟨xs, n, _, _, _, hlen, hx⟩ := DataW.trod_struct Try.underlying69 hf
  match xs, hlen with
  | [y0, y1, y2, y3], _ =>
    have h0 : DataW.trod enc Try.prog W 0 (fun _ => true) true n 5 ((cs.toList.drop 0).take (Try.prog.cellsOf 5)) = some y0 := hx 0 _ rfl
    have h1 : DataW.trod enc Try.prog W 0 (fun _ => true) true n 5 ((cs.toList.drop 1).take (Try.prog.cellsOf 5)) = some y1 := hx 1 _ rfl
    have h2 : DataW.trod enc Try.prog W 0 (fun _ => true) true n 5 ((cs.toList.drop 2).take (Try.prog.cellsOf 5)) = some y2 := hx 2 _ rfl
    have h3 : DataW.trod enc Try.prog W 0 (fun _ => true) true n 67 ((cs.toList.drop 3).take (Try.prog.cellsOf 67)) = some y3 := hx 3 _ rfl
    rw [hC1] at h0 h1 h2
    rw [hC24] at h3
    obtain ⟨a, ha, ea⟩ := byte_at h0
    obtain ⟨b, hb, eb⟩ := byte_at h1
    obtain ⟨c, hc, ec⟩ := byte_at h2
    obtain ⟨zs, m, _, _, _, hzl, hz⟩ := DataW.trod_array Try.underlying67 h3
    rw [hC1] at hz
    have hby : ∀ j, j < 24 → ∃ y : Nat, y ≤ 255 ∧ cs[3 + j]? = some (.int .u8 (y : Int)) := by
      intro j hj
      have h4 := hz j hj
      rw [List.getElem?_eq_getElem (show j < zs.length by omega), Nat.mul_one] at h4
      obtain ⟨y, hy, ey⟩ := byte_at h4
      refine ⟨y, hy, ?_⟩
      rw [List.getElem?_take, if_pos hj, List.getElem?_drop] at ey
      simpa using ey
    have e0 : cs[0]? = some (.int .u8 (a : Int)) := by simpa using ea
    have e1 : cs[1]? = some (.int .u8 (b : Int)) := by simpa using eb
    have e2 : cs[2]? = some (.int .u8 (c : Int)) := by simpa using ec
    refine ⟨cs, a, b, c, rfl, hsz, ?_, ha, hb, hc, e0, e1, e2, hby⟩
    rw [Array.all_eq_true]
    intro i hi
    have hv : ∃ y : Nat, cs[i]? = some (.int .u8 (y : Int)) := by
      match i, hi with
      | 0, _ => exact ⟨a, e0⟩
      | 1, _ => exact ⟨b, e1⟩
      | 2, _ => exact ⟨c, e2⟩
      | j + 3, hi =>
        obtain ⟨y, _, ey⟩ := hby j (by omega)
        exact ⟨y, by rw [Nat.add_comm]; exact ey⟩
    obtain ⟨y, hy⟩ := hv
    rw [Array.getElem?_eq_getElem hi] at hy
    injection hy with hy
    rw [hy]
    rfl
end
end Go.Proofs.Ytdaaiockkbolbaa
