/- Arguments that came in: numbers, bytes; the row's post from a walk's 'Below'. No type of one program is named. -/
import Derived.Test.YtbgakdpbglpfaaaGreatDoorKit
import Derived.ChangeSlices
import Derived.ChangeSame
import Derived.Below
import Derived.WalkKit
import Derived.ProofKit
import Derived.OpenShut
import Derived.Deep.DeepHandedRow
import Derived.Deep.Strs
namespace Go.Proofs.YtbgakdpbglpfaaaGreatDoor
open Go.ChangeShapes Go.WideShapes Go.ChangeAt Go.RowKit
theorem cell_lt {w : World} {p : Addr} {v : Value} (h : w.cell? p = some v) : p.block < w.heap.size := by
  rcases Nat.lt_or_ge p.block w.heap.size with hlt | hge
  · exact hlt
  · simp [World.cell?, Array.getElem?_eq_none hge] at h
section
variable {H : Type} {enc : TypeId × Value → H} {P : Program}
theorem shut_nil_nums {t e : TypeId} {W : World} {sp : Nat → Bool} (ht : P.underlying t = some (.slice e)) : DataW.Trod enc P W 0 sp true t (.slice none 0 0) .nil [] := by
  refine ⟨1, ?_⟩
  rw [DataW.trod_step]
  unfold DataW.trodStep
  simp [Value.cells, ht]
/-- an argument that is a slice of numbers of whatever kind -/
theorem open_nums {t e : TypeId} {k : IntKind} (ht : P.underlying t = some (.slice e)) (he : P.underlying e = some (.int k)) (hc : P.cellsOf e = 1) {W : World} {base : Nat} {v : Value} {d : DataW H} {ps : List MemPlace} (hval : Value.okWide P W .any base t v) (h : DataW.Trod enc P W 0 (fun _ => true) true t v d ps) :
    ∃ (A : Option Addr) (n c : Nat) (xs : List Int), v = .slice A n c ∧ n ≤ maxLen ∧ Reads W W.heap.size 1 A n (xs.map (Value.int k)) ∧ (∀ x ∈ xs, (Lit.int k x).wf = true) ∧
      ∀ (W' : World), Below W.heap.size W W' → ∀ sp : Nat → Bool, (∀ p ∈ ps, sp p.block = true) → DataW.Trod enc P W' 0 sp true t v d ps := by
  obtain ⟨A0, n0, c0, rfl⟩ := okWide_slice ht hval
  obtain ⟨fuel, hf⟩ := h
  rcases open_ints ht he hc hf with ⟨hcs, hx⟩ | ⟨a, len, cap, zs, hcs, _, hl, hm, hz, hx, hcell, hw⟩
  · obtain ⟨rfl, rfl, rfl⟩ : A0 = none ∧ n0 = 0 ∧ c0 = 0 := by simpa [Value.cells] using hcs
    obtain ⟨rfl, rfl⟩ : d = .nil ∧ ps = [] := by simpa using hx
    exact ⟨none, 0, 0, [], rfl, by decide, Reads.none_, fun x hx => by simp at hx, fun W' _ sp _ => shut_nil_nums ht⟩
  · obtain ⟨rfl, rfl, rfl⟩ : A0 = some a ∧ n0 = len ∧ c0 = cap := by simpa [Value.cells] using hcs
    obtain ⟨rfl, rfl⟩ : d = .slice (lits k (zs.take n0)) (lits k (zs.drop n0)) ∧ ps = MemPlace.row a zs.length := by simpa using hx
    rw [if_pos rfl] at hz
    refine ⟨some a, n0, c0, zs.take n0, rfl, Nat.le_trans hl hm, ?_, fun x hx => hw x (List.mem_of_mem_take hx), ?_⟩
    · refine ⟨by rw [List.length_map, List.length_take]; omega, fun hn => ⟨a, rfl, ?_, ?_⟩⟩
      · have := cell_lt (hcell 0 (by omega))
        rwa [block_of_add] at this
      · intro j u hu
        have hj : j < (zs.take n0).length := by rw [← List.length_map (f := Value.int k)]; exact (List.getElem?_eq_some_iff.1 hu).1
        rw [List.getElem?_map, List.getElem?_eq_getElem hj, Option.map_some] at hu
        rw [List.length_take] at hj
        rw [hcell j (by omega), ← hu]
        simp [List.getD, show j < zs.length by omega]
    · intro W' hb sp hsp
      refine ⟨2, ?_⟩
      have hz2 : zs.length = (if sp a.block then c0 else n0) := by
        by_cases h0 : zs.length = 0
        · split <;> omega
        · have h1 : sp a.block = true := hsp (.cell a.block (a.off + 0)) (by
            rw [MemPlace.row, List.mem_map]
            exact ⟨0, List.mem_range.2 (by omega), rfl⟩)
          rw [h1, if_pos rfl]; exact hz
      refine shut_ints 0 ht he hc (Nat.zero_le _) hl hm hz2 (fun i hi => ?_) hw
      rw [hb.cell (by have := cell_lt (hcell i hi); exact this)]
      exact hcell i hi
/-- a slice of bytes that came in: as numbers -/
theorem open_bytes {t e : TypeId} (ht : P.underlying t = some (.slice e)) (he : P.underlying e = some (.int .u8)) (hc : P.cellsOf e = 1) {W : World} {base : Nat} {v : Value} {d : DataW H} {ps : List MemPlace} (hval : Value.okWide P W .any base t v) (h : DataW.Trod enc P W 0 (fun _ => true) true t v d ps) :
    ∃ (A : Option Addr) (n c : Nat) (bs : List Nat), v = .slice A n c ∧ n ≤ maxLen ∧ Reads W W.heap.size 1 A n (bs.map fun b : Nat => Value.int .u8 (b : Int)) ∧ (∀ b ∈ bs, b < 256) ∧
      ∀ (W' : World), Below W.heap.size W W' → ∀ sp : Nat → Bool, (∀ p ∈ ps, sp p.block = true) → DataW.Trod enc P W' 0 sp true t v d ps := by
  obtain ⟨A, n, c, xs, hv, hn, hr, hw, hb⟩ := open_nums ht he hc hval h
  have hb8 : ∀ x ∈ xs, 0 ≤ x ∧ x ≤ 255 := fun x hx => by
    have := hw x hx
    simp [Lit.wf, IntKind.min, IntKind.max, IntKind.signed, IntKind.bits] at this
    omega
  refine ⟨A, n, c, xs.map Int.toNat, hv, hn, ?_, fun b hb => ?_, hb⟩
  · have e : (xs.map Int.toNat).map (fun b : Nat => Value.int .u8 (b : Int)) = xs.map (Value.int .u8) := by
      rw [List.map_map]
      apply List.map_congr_left
      intro x hx
      have := hb8 x hx
      simp only [Function.comp]
      rw [Int.toNat_of_nonneg this.1]
    rw [e]; exact hr
  · obtain ⟨x, hx, rfl⟩ := List.mem_map.1 hb
    have := hb8 x hx
    omega
theorem post_of_below {f : Func} {s : ChangeSpec} {apart fresh handsOn again : Bool} {W W' : World} {args : Array Value} {v : Value} {ds gs : List (DataW H)} {before pa pv : List MemPlace}
    (hW : DataW.Whole enc P f.params.toList s.vars apart W args.toList ds gs before)
    (hres : ∀ (b : Nat) (sp : Nat → Bool) (hd : Bool), DataW.TrodAll enc P W' b sp hd f.resultTypes.toList (v.resultList f.resultTypes.size) (s.fn H (ds ++ gs)).results [])
    (hargs : ∀ sp : Nat → Bool, (∀ p ∈ before, sp p.block = true) → DataW.TrodAll enc P W' 0 sp true f.params.toList args.toList (s.fn H (ds ++ gs)).args pa)
    (hvars : ∀ sp : Nat → Bool, (∀ p ∈ before, sp p.block = true) → DataW.TrodVars enc P W' sp s.vars (s.fn H (ds ++ gs)).vars pv)
    (hps : before = pa ++ pv) (hb : Below W.heap.size W W')
    (hok : ∀ (j : Nat) (t : TypeId) (r : Value), f.resultTypes[j]? = some t → (v.resultList f.resultTypes.size)[j]? = some r → Value.okWide P W' .any 0 t r) :
    s.post enc P f apart fresh handsOn again W args v W' := by
  have hlt : ∀ p ∈ before, p.block < W.heap.size := fun p hp => hW.lt p hp
  have hold : ∀ p ∈ before, (fun b => decide (b < W.heap.size)) p.block = true := fun p hp => by simpa using hlt p hp
  refine ⟨ds, gs, before, [], pa, pv, hW, hres _ _ _, hargs _ hold, hvars _ hold, World.keptBut_mono (fun p hp => ⟨hp, ?_⟩) (hb.frame (· ∈ before)), fun _ => ?_⟩
  · rw [hps, List.mem_append] at hp
    exact Or.inr hp
  · obtain ⟨_, _, _, _, _, hz, hn⟩ := hW
    refine ⟨hok, _, _, ([] ++ pa) ++ pv, ⟨[] ++ pa, pv, trodAll_append (hargs _ (fun _ _ => rfl)) (hres _ _ _), hvars _ (fun _ _ => rfl), rfl, ?_, ?_⟩, ?_⟩
    · intro b off hp
      have hin : MemPlace.cell b off ∈ before := by rw [hps]; simpa using hp
      rw [hb.frozen (hlt _ hin)]
      exact hz b off hin
    · intro ha
      have := hn ha
      rw [hps] at this
      simpa using this
    · intro p hp _
      rw [hps]
      simpa using hp
end
end Go.Proofs.YtbgakdpbglpfaaaGreatDoor
