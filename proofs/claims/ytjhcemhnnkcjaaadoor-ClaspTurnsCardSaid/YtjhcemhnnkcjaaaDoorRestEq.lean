/- Two rests are compared. -/
import Derived.Test.YtjhcemhnnkcjaaaDoorProg
import Derived.Test.YtjhcemhnnkcjaaaDoorLaid
import Derived.Test.YtjhcemhnnkcjaaaDoorNum
import Derived.ChangeKeysEq
import Derived.Laws.StructEq
namespace Go.Proofs.YtjhcemhnnkcjaaaDoor
open Go.RowKit
theorem cellsOf_bool : Tryd.prog.cellsOf 4 = 1 := by kernel_rfl
theorem info_bool : ∃ i, Tryd.prog.info? 4 = some i ∧ i.size = 1 := by
  cases h : Tryd.prog.info? 4 with
  | none => exact absurd (show (Tryd.prog.info? 4).isSome = true by kernel_rfl) (by simp [h])
  | some i => exact ⟨i, rfl, by have : (Tryd.prog.info? 4).map (·.size) = some 1 := by kernel_rfl
                                simpa [h] using this⟩
theorem part_bool (cs : Array Value) (i : Nat) (v : Value) (h : cs[i]? = some v) (w : World) : (part 4 cs i).run Tryd.prog w = .ok v w := by
  have hagg : (isAgg 4).run Tryd.prog w = .ok false w := by
    unfold isAgg
    rw [Sem.run_bind, run_underlying Tryd.underlying4 w]
    rfl
  simp [part, hagg, h]
theorem eqItems_bools (d : Nat) (b c : List Bool) (hl : b.length = c.length) (w : World) : ∀ is : List Nat, (∀ i ∈ is, i < b.length) →
    (Op.eqItems (d + 1) 4 1 (b.map Value.bool).toArray (c.map Value.bool).toArray is).run Tryd.prog w = .ok (is.all fun i => b[i]? == c[i]?) w
  | [], _ => by simp [Op.eqItems]
  | i :: is, h => by
    have hi := h i (by simp)
    have hb : b[i]? = some b[i] := List.getElem?_eq_getElem hi
    have hc : c[i]? = some (c[i]'(by omega)) := List.getElem?_eq_getElem _
    have p1 := part_bool (b.map Value.bool).toArray (i * 1) (.bool b[i]) (by simp [hb]) w
    have p2 := part_bool (c.map Value.bool).toArray (i * 1) (.bool (c[i]'(by omega))) (by simp [hc]) w
    have ih := eqItems_bools d b c hl w is (fun j hj => h j (by simp [hj]))
    simp only [Op.eqItems, Sem.run_bind, p1, p2, Result.andThen_ok, run_equalIn_bool w d 4 _ _ Tryd.underlying4]
    simp only [List.all_cons, hb, hc]
    cases hq : (b[i] == c[i]'(by omega)) with
    | false => simp at hq; simp [hq]
    | true => simp at hq; simp [hq, ih]
theorem range_all_eq (b c : List Bool) (hl : b.length = c.length) : ((List.range b.length).all fun i => b[i]? == c[i]?) = (b == c) := by
  rw [Bool.eq_iff_iff]
  simp only [List.all_eq_true, List.mem_range, beq_iff_eq]
  constructor
  · intro h
    apply List.ext_getElem?
    intro i
    by_cases hi : i < b.length
    · exact h i hi
    · rw [List.getElem?_eq_none (by omega), List.getElem?_eq_none (by omega)]
  · rintro rfl i _; rfl
theorem restC_extract (n : Nat) (b : List Bool) (h : b.length = 16) : (restC n b).extract 1 17 = (b.map Value.bool).toArray := by
  unfold restC
  rw [List.extract_toArray]
  simp only [List.extract]
  exact congrArg List.toArray (List.take_of_length_le (by simp [h]))
theorem rest_fields : (Tryd.prog.fieldsOf 68).toList.map (fun f => (f.name, f.type, f.offset)) = [("rings", 3, 0), ("on", 66, 1)] := by kernel_rfl
theorem rest_under : Tryd.prog.underlying 68 = some (.struct (Tryd.prog.fieldsOf 68)) := by kernel_rfl
theorem rest_stood : Tryd.prog.stoodInHeld 68 = false := by kernel_rfl
theorem part_int0 (m : Nat) (x : List Bool) (w : World) : (part 3 (restC m x) 0).run Tryd.prog w = .ok (.int .i64 (m : Int)) w := by
  have hagg : (isAgg 3).run Tryd.prog w = .ok false w := by
    unfold isAgg
    rw [Sem.run_bind, run_underlying Tryd.underlying3 w]
    rfl
  simp [part, hagg, restC_zero]
theorem part_arr1 (m : Nat) (x : List Bool) (hx : x.length = 16) (w : World) : (part 66 (restC m x) 1).run Tryd.prog w = .ok (.agg (x.map Value.bool).toArray) w := by
  have hagg : (isAgg 66).run Tryd.prog w = .ok true w := by
    unfold isAgg
    rw [Sem.run_bind, run_underlying Tryd.underlying66 w]
    rfl
  simp [part, hagg, restC_extract m x hx]
theorem arr_equal (d : Nat) (b c : List Bool) (hb : b.length = 16) (hc : c.length = 16) (w : World) :
    (Op.equalIn (d + 2) 66 (.agg (b.map Value.bool).toArray) (.agg (c.map Value.bool).toArray)).run Tryd.prog w = .ok (b == c) w := by
  obtain ⟨i, hi1, _⟩ := info_bool
  have hit := eqItems_bools d b c (by omega) w (List.range 16) (fun j hj => by rw [hb]; exact List.mem_range.1 hj)
  rw [← hb, range_all_eq b c (by omega)] at hit
  rw [run_equalIn_array w (d + 1) _ _ Tryd.underlying66 hi1, cellsOf_bool, ← hb]
  exact hit
theorem rest_equal (d : Nat) (n : Nat) (b c : List Bool) (hb : b.length = 16) (hc : c.length = 16) (w : World) :
    (Op.equalIn (d + 3) 68 (.agg (restC n b)) (.agg (restC n c))).run Tryd.prog w = .ok (b == c) w := by
  have hf := rest_fields
  rw [run_equalIn_struct w (d + 2) _ _ _ rest_under rest_stood]
  generalize (Tryd.prog.fieldsOf 68).toList = fs at hf
  have hfl : fs.length = 2 := by have := congrArg List.length hf; simpa using this
  match fs, hfl with
  | [f0, f1], _ =>
    simp only [List.map_cons, List.map_nil, List.cons.injEq, Prod.mk.injEq, and_true] at hf
    obtain ⟨⟨n0, t0, o0⟩, n1, t1, o1⟩ := hf
    have e1 := run_equalIn_int (P := Tryd.prog) w (d + 1) 3 .i64 .i64 n n Tryd.underlying3
    have e2 := arr_equal d b c hb hc w
    simp only [Op.eqFields, t0, t1, o0, o1, n0, n1, Sem.run_bind, part_int0, part_arr1 n b hb, part_arr1 n c hc, Result.andThen_ok, Sem.run_ite, Sem.run_pure, e1, e2]
    cases hbc : (b == c) <;> simp
theorem pad_inj {xs ys : List Int} (hx : bin xs) (hy : bin ys) (hl : xs.length = ys.length) (h16 : xs.length ≤ 16) : (pad xs == pad ys) = decide (numS xs = numS ys) := by
  rw [Bool.eq_iff_iff]
  simp only [beq_iff_eq, decide_eq_true_eq]
  constructor
  · intro h
    have : xs = ys := by
      apply List.ext_getElem?
      intro i
      by_cases hi : i < xs.length
      · have h1 : (pad xs)[i]? = (pad ys)[i]? := by rw [h]
        have e1 : xs[i]? = some xs[i] := List.getElem?_eq_getElem hi
        have e2 : ys[i]? = some (ys[i]'(by omega)) := List.getElem?_eq_getElem _
        simp only [pad, List.getElem?_map, List.getElem?_range (show i < 16 by omega), e1, e2, Option.map_some, Option.some.injEq] at h1
        have b1 := hx xs[i] (List.getElem_mem _)
        have b2 := hy (ys[i]'(by omega)) (List.getElem_mem _)
        rw [e1, e2]
        rcases b1 with b1 | b1 <;> rcases b2 with b2 | b2 <;> rw [b1, b2] at h1 ⊢ <;> simp at h1
      · rw [List.getElem?_eq_none (by omega), List.getElem?_eq_none (by omega)]
    rw [this]
  · intro h
    rw [numS_inj xs ys hx hy hl h]
theorem rest_neq (n : Nat) (xs ys : List Int) (hx : bin xs) (hy : bin ys) (hl : xs.length = ys.length) (h16 : xs.length ≤ 16) (w : World) :
    (binOp .neq 68 (.agg (restC n (pad xs))) (.agg (restC n (pad ys)))).run Tryd.prog w = .ok (.bool !(decide (numS xs = numS ys))) w := by
  have h := rest_equal 9997 n _ _ (pad_length xs) (pad_length ys) w
  rw [pad_inj hx hy hl h16] at h
  rw [run_neq_struct]
  exact congrArg (fun r : Result Bool => r.andThen fun b w' => Result.ok (Value.bool (!b)) w') h
end Go.Proofs.YtjhcemhnnkcjaaaDoor
