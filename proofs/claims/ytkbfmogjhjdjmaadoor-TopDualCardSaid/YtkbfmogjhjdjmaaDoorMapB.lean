/- A map to bools that the call makes, as a set of its keys. -/
import Derived.Maps.OwnSet
import Derived.Maps.OwnOps
import Derived.Test.YtkbfmogjhjdjmaaDoorKit
namespace Go.Proofs.YtkbfmogjhjdjmaaDoor
open Go.RowKit Go.Maps
/-- block b is a map: just the keys of S are in it, m of them, each with true -/
def SetM (P : Program) (e : TypeId) (w : World) (k : TypeId) (b n m : Nat) (S : Lit → Bool) : Prop :=
  ∃ D : DataW Unit, w.ownsMap P k (plainElem P e) b n D ∧ (∀ kl, D.atKey kl (.lit (.bool false)) = .lit (.bool (S kl))) ∧ (∀ kl, Maps.has D kl = S kl) ∧ Maps.size D = m
section
variable {P : Program} {e : TypeId} {w w' : World} {k b n m : Nat} {S : Lit → Bool}
theorem plainB_inv (he : P.underlying e = some .bool) {v : Value} {z : DataW Unit × List MemPlace} (h : plainElem P e v = some z) : ∃ x, v = .bool x ∧ z = (.lit (.bool x), []) := by
  unfold plainElem at h
  rw [he] at h
  cases v <;> simp at h
  exact ⟨_, rfl, h.symm⟩
theorem SetM.made (w : World) (k : TypeId) : SetM P e (w.alloc (.map #[] 0)) k w.heap.size 0 0 (fun _ => false) :=
  ⟨.map [], World.ownsMap_made w _ _ _, fun _ => rfl, fun _ => rfl, rfl⟩
theorem SetM.lt (h : SetM P e w k b n m S) : b < w.heap.size := by
  obtain ⟨D, h1, _⟩ := h
  exact h1.lt
theorem SetM.kept {row : Option Nat} (h : SetM P e w k b n m S) (hg : w.grownBy w' row) (hne : some b ≠ row) : SetM P e w' k b n m S := by
  obtain ⟨D, h1, h2⟩ := h
  exact ⟨D, h1.kept hg hne, h2⟩
theorem SetM.callee (h : SetM P e w k b n m S) (hb : Below w.heap.size w w') : SetM P e w' k b n m S :=
  h.kept (row := none) ⟨hb.os, hb.tape, hb.output, hb.size, fun i hi _ => hb.block i hi⟩ (by simp)
theorem SetM.look (h : SetM P e w k b n m S) {t : TypeId} (K : Keyed P k) (ht : P.underlying t = some (.map k e)) (he : P.underlying e = some .bool) (hz : (zeroValue e).run P w = .ok (.bool false) w) {key : Value} {kl : Lit} (hkey : keyOf P k key = some kl) :
    (Instr.lookup t (.map (some b)) key false).run P w = .ok (.bool (S kl)) w := by
  obtain ⟨D, h1, h2, _⟩ := h
  obtain ⟨v, ps, hrun, hv⟩ := h1.lookup K ht hz (plainElem_bool he false) hkey
  obtain ⟨x, rfl, hx⟩ := plainB_inv he hv
  rw [h2] at hx
  injection hx with hx
  injection hx with hx
  injection hx with hx
  rw [hrun, hx]
theorem SetM.len (h : SetM P e w k b n m S) {t : TypeId} (ht : P.underlying t = some (.map k e)) (ty : TypeId) : (Builtin.len_ #[t] ty #[.map (some b)]).run P w = .ok (.int .i64 m) w := by
  obtain ⟨D, h1, _, _, h4⟩ := h
  rw [h1.len ht ty, h4]
theorem SetM.put (h : SetM P e w k b n m S) {t : TypeId} (K : Keyed P k) (ht : P.underlying t = some (.map k e)) (he : P.underlying e = some .bool) (hn : n < maxLen) {key : Value} {kl : Lit} (hkey : keyOf P k key = some kl) :
    ∃ w', (Instr.mapUpdate t (.map (some b)) key (.bool true)).run P w = .ok () w' ∧ SetM P e w' k b (n + 1) (if S kl then m else m + 1) (fun x => S x || x.sameKey kl) ∧ w.grownBy w' (some b) := by
  obtain ⟨D, h1, h2, h3, h4⟩ := h
  obtain ⟨w', r1, r2, r3⟩ := h1.update K ht hn hkey (plainElem_bool he true)
  have hkl := K.key hkey
  refine ⟨w', r1, ⟨_, r2, fun x => ?_, fun x => ?_, ?_⟩, r3⟩
  · show _ = DataW.lit (Lit.bool (S x || x.sameKey kl))
    by_cases hx : x = kl
    · subst hx
      rw [atKey_put_same h1.isMap hkl, WideAt.sameKey_self hkl, Bool.or_true]
    · rw [atKey_put_other hx, h2, sameKey_ne hx, Bool.or_false]
  · show _ = (S x || x.sameKey kl)
    by_cases hx : x = kl
    · subst hx
      rw [has_put_same h1.isMap hkl, WideAt.sameKey_self hkl, Bool.or_true]
    · rw [has_put_other hx, h3, sameKey_ne hx, Bool.or_false]
  · rw [size_put (h1.tidy K), h3, h4]
end
end Go.Proofs.YtkbfmogjhjdjmaaDoor
