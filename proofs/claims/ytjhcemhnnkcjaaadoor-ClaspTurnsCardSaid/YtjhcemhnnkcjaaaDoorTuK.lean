/- Pairs of numbers below 16 as keys of a map to bools that the call makes: as a set of pairs; ranged over. -/
import Derived.Test.YtjhcemhnnkcjaaaDoorTuP
import Derived.Test.YtjhcemhnnkcjaaaDoorMapB
import Derived.DeepKeys4
import Derived.WideKeyPair
import Derived.Maps.RangeWalk
namespace Go.Proofs.YtjhcemhnnkcjaaaDoor
open Go.RowKit Go.Maps Go.WideMaps
namespace Tu
theorem laidOutT : laidOutB Tryd.prog = true := by kernel_rfl
theorem arr2 : ArrKey Tryd.prog 57 47 2 := ⟨Tryd.underlying57, by kernel_rfl, by kernel_rfl, by kernel_rfl⟩
theorem row2 : (57 : TypeId) < Tryd.prog.types.size := of_decide_eq_true (by kernel_rfl)
theorem wide2 : (match Tryd.prog.underlying 57 with | some (.array _ _) | some (.struct _) => true | _ => false) = true := by rw [Tryd.underlying57]
theorem kt2 : Tryd.prog.keyTypeAt 2 57 = true := by kernel_rfl
set_option maxRecDepth 100000 in
theorem keyU : Keyed Tryd.prog 57 := Keyed.of_law (deep_law_laid laidOutT (m := 2) (by decide) row2 kt2 wide2)
theorem succ_of {n k : Nat} (h : k < n) : ∃ m, n = m + 1 := ⟨n - 1, by omega⟩
theorem rows_some : ∃ m, Tryd.prog.types.size = m + 1 := succ_of row2
/-- a pair as a value, and as a key -/
def pairU (x y : Nat) : Value := .agg #[.int .u32 (x : Int), .int .u32 (y : Int)]
def litU (x y : Nat) : Lit := .string (keyBytes [.int .u32 (x : Int), .int .u32 (y : Int)])
theorem lit_wf {a : Nat} (h : a < 16) : (Lit.int .u32 (a : Int)).wf = true := by
  simp [Lit.wf, IntKind.min, IntKind.max, IntKind.signed, IntKind.bits]
  omega
theorem key_lit {x y : Nat} (hx : x < 16) (hy : y < 16) : keyOf Tryd.prog 57 (pairU x y) = some (litU x y) :=
  keyOf_pair arr2 Tryd.underlying47 rows_some (lit_wf hx) (lit_wf hy)
theorem pairU_inj {a b c d : Nat} (h : pairU a b = pairU c d) : a = c ∧ b = d := by
  simp [pairU] at h
  omega
theorem lit_inj {a b c d : Nat} (ha : a < 16) (hb : b < 16) (hc : c < 16) (hd : d < 16) (h : litU a b = litU c d) : a = c ∧ b = d := by
  have h1 := key_lit ha hb
  rw [h] at h1
  exact pairU_inj (keyU.inj h1 (key_lit hc hd))
theorem lit_self {x y : Nat} (hx : x < 16) (hy : y < 16) : (litU x y).sameKey (litU x y) = true := WideAt.sameKey_self (keyU.key (key_lit hx hy))
theorem lit_same {a b c d : Nat} (ha : a < 16) (hb : b < 16) (hc : c < 16) (hd : d < 16) : (litU a b).sameKey (litU c d) = true ↔ a = c ∧ b = d := by
  constructor
  · exact fun h => lit_inj ha hb hc hd (WideAt.sameKey_eq h)
  · rintro ⟨rfl, rfl⟩
    exact lit_self ha hb
/-- the keys of S are the pairs below 16 of which p holds -/
def Set16 (S : Lit → Bool) (p : Nat → Nat → Prop) : Prop := ∀ kl, S kl = true ↔ ∃ x y, x < 16 ∧ y < 16 ∧ p x y ∧ kl = litU x y
theorem Set16.at {S : Lit → Bool} {p : Nat → Nat → Prop} (h : Set16 S p) {x y : Nat} (hx : x < 16) (hy : y < 16) : S (litU x y) = true ↔ p x y := by
  rw [h]
  constructor
  · rintro ⟨x', y', hx', hy', hp, e⟩
    obtain ⟨rfl, rfl⟩ := lit_inj hx hy hx' hy' e
    exact hp
  · exact fun hp => ⟨x, y, hx, hy, hp, rfl⟩
theorem Set16.cong {S : Lit → Bool} {p q : Nat → Nat → Prop} (h : Set16 S p) (hpq : ∀ x y, x < 16 → y < 16 → (p x y ↔ q x y)) : Set16 S q := by
  intro kl
  rw [h]
  constructor
  · rintro ⟨x, y, hx, hy, hp, e⟩
    exact ⟨x, y, hx, hy, (hpq x y hx hy).1 hp, e⟩
  · rintro ⟨x, y, hx, hy, hp, e⟩
    exact ⟨x, y, hx, hy, (hpq x y hx hy).2 hp, e⟩
/-- block g is a map: just the pairs of which p holds are in it; nb: at most so many entries -/
def MapIs (w : World) (g : Nat) (p : Nat → Nat → Prop) (nb : Nat) : Prop :=
  ∃ n m S, n ≤ nb ∧ SetM Tryd.prog 4 w 57 g n m S ∧ Set16 S p
section
variable {w w' : World} {g nb : Nat} {p q : Nat → Nat → Prop}
theorem MapIs.made (w : World) : MapIs (w.alloc (.map #[] 0)) w.heap.size (fun _ _ => False) 0 := ⟨0, 0, _, Nat.le_refl _, SetM.made w _, fun kl => by simp⟩
theorem MapIs.lt (h : MapIs w g p nb) : g < w.heap.size := by
  obtain ⟨n, m, S, _, h1, _⟩ := h
  exact h1.lt
theorem MapIs.kept {row : Option Nat} (h : MapIs w g p nb) (hg : w.grownBy w' row) (hne : some g ≠ row) : MapIs w' g p nb := by
  obtain ⟨n, m, S, h1, h2, h3⟩ := h
  exact ⟨n, m, S, h1, h2.kept hg hne, h3⟩
theorem MapIs.callee (h : MapIs w g p nb) (hb : Below w.heap.size w w') : MapIs w' g p nb := by
  obtain ⟨n, m, S, h1, h2, h3⟩ := h
  exact ⟨n, m, S, h1, h2.callee hb, h3⟩
theorem MapIs.cong (h : MapIs w g p nb) (hpq : ∀ x y, x < 16 → y < 16 → (p x y ↔ q x y)) : MapIs w g q nb := by
  obtain ⟨n, m, S, h1, h2, h3⟩ := h
  exact ⟨n, m, S, h1, h2, h3.cong hpq⟩
theorem MapIs.more (h : MapIs w g p nb) {nb' : Nat} (hn : nb ≤ nb') : MapIs w g p nb' := by
  obtain ⟨n, m, S, h1, h2, h3⟩ := h
  exact ⟨n, m, S, by omega, h2, h3⟩
theorem zeroB (w : World) : (zeroValue 4).run Tryd.prog w = .ok (.bool false) w := Tryd.zeroValue4 w
/-- is a pair in the map -/
theorem MapIs.look (h : MapIs w g p nb) {x y : Nat} (hx : x < 16) (hy : y < 16) : ∃ b : Bool, (b = true ↔ p x y) ∧ (Instr.lookup 58 (.map (some g)) (pairU x y) false).run Tryd.prog w = .ok (.bool b) w := by
  obtain ⟨n, m, S, h1, h2, h3⟩ := h
  exact ⟨_, h3.at hx hy, h2.look keyU Tryd.underlying58 Tryd.underlying4 (zeroB w) (key_lit hx hy)⟩
/-- a pair is laid into the map -/
theorem MapIs.put (h : MapIs w g p nb) (hn : nb < maxLen) {x y : Nat} (hx : x < 16) (hy : y < 16) : ∃ w', (Instr.mapUpdate 58 (.map (some g)) (pairU x y) (.bool true)).run Tryd.prog w = .ok () w' ∧ MapIs w' g (fun a b => p a b ∨ (a = x ∧ b = y)) (nb + 1) ∧ w.grownBy w' (some g) := by
  obtain ⟨n, m, S, h1, h2, h3⟩ := h
  obtain ⟨w', r1, r2, r3⟩ := h2.put keyU Tryd.underlying58 Tryd.underlying4 (by omega) (key_lit hx hy)
  refine ⟨w', r1, ⟨_, _, _, by omega, r2, fun kl => ?_⟩, r3⟩
  simp only [Bool.or_eq_true]
  rw [h3]
  constructor
  · rintro (⟨a, b, ha, hb, hp, e⟩ | hs)
    · exact ⟨a, b, ha, hb, Or.inl hp, e⟩
    · exact ⟨x, y, hx, hy, Or.inr ⟨rfl, rfl⟩, WideAt.sameKey_eq hs⟩
  · rintro ⟨a, b, ha, hb, hp | ⟨rfl, rfl⟩, rfl⟩
    · exact Or.inl ⟨a, b, ha, hb, hp, rfl⟩
    · exact Or.inr (lit_self ha hb)
end
/-- the loop over the map in block g, its iterator in block r: F: the pairs still to come, cnt of them -/
def RngIs (w : World) (g r : Nat) (F : Nat → Nat → Prop) (cnt : Nat) : Prop :=
  ∃ n D left, w.ranges (H := Unit) Tryd.prog 57 (plainElem Tryd.prog 4) g r n D left cnt ∧ Set16 left F ∧ ∀ kl, left kl = true → D.atKey kl (.lit (.bool false)) = .lit (.bool true)
section
variable {w w' : World} {g r cnt nb : Nat} {F p : Nat → Nat → Prop} {ops : Array Oper} {rest : List Oper} {o : Oper} {a : Act} {Q : Exit → Act → World → Prop}
theorem RngIs.kept {row : Option Nat} (h : RngIs w g r F cnt) (hg : w.grownBy w' row) (hb : some g ≠ row) (hr : some r ≠ row) : RngIs w' g r F cnt := by
  obtain ⟨n, D, left, h1, h2⟩ := h
  exact ⟨n, D, left, h1.kept hg hb hr, h2⟩
theorem RngIs.lt (h : RngIs w g r F cnt) : r < w.heap.size := by
  obtain ⟨n, D, left, h1, h2⟩ := h
  exact h1.lt
theorem RngIs.left_eq (h : RngIs w g r F cnt) : w.rangeLeft g r = cnt := by
  obtain ⟨n, D, left, h1, h2⟩ := h
  exact h1.left_eq
theorem size_le {D : DataW Unit} {k : TypeId} {R : Value → Option (DataW Unit × List MemPlace)} {b n : Nat} (h : w.ownsMap Tryd.prog k R b n D) : Maps.size D ≤ n := by
  obtain ⟨es, clock, _, _, hs, rfl⟩ := h
  show (List.foldr DataW.insert [] _).length ≤ n
  rw [length_sorted]
  simpa using hs
/-- 'range' over a set of pairs -/
theorem wpList_range_pairs (hg : o.guard = none) (m : Operand) (hop : o.op = Op.range 58 m) (hm : a.eval m = .map (some g)) (h : MapIs w g p nb)
    (hK : ∀ w' cnt, RngIs w' g w.heap.size p cnt → cnt ≤ nb → w.grownBy w' none → w'.heap.size = w.heap.size + 1 → wpList Tryd.prog ops Q rest (a.put o.dst (.pointer (some ⟨w.heap.size, 0, none⟩))) w') :
    wpList Tryd.prog ops Q (o :: rest) a w := by
  obtain ⟨n, mm, S, h1, ⟨D, h2, h3, h4, h5⟩, h6⟩ := h
  refine wpList_range_own _ hg m _ hop _ _ keyU Tryd.underlying58 _ g n D hm h2 ?_
  intro w' hr hgr hs
  refine hK w' _ ⟨n, D, _, hr, fun kl => ?_, fun kl hkl => ?_⟩ (Nat.le_trans (size_le h2) h1) hgr hs
  · rw [h4]
    exact h6 kl
  · rw [h4] at hkl
    rw [h3, hkl]
/-- its step -/
theorem wpList_next_pairs (hg : o.guard = none) (it : Operand) (hop : o.op = Op.next it false) (hit : a.eval it = .pointer (some ⟨r, 0, none⟩)) (h : RngIs w g r F cnt)
    (hDone : cnt = 0 → (∀ x y, x < 16 → y < 16 → ¬ F x y) → wpList Tryd.prog ops Q rest (a.put o.dst (.tuple #[.bool false])) w)
    (hMore : ∀ (x y : Nat) (w' : World) (cnt' : Nat), x < 16 → y < 16 → F x y → RngIs w' g r (strk F x y) cnt' → cnt' < cnt → w.grownBy w' (some r) →
      (Instr.entry (.pointer (some ⟨r, 0, none⟩))).run Tryd.prog w' = .ok (.tuple #[pairU x y, .bool true]) w' → wpList Tryd.prog ops Q rest (a.put o.dst (.tuple #[.bool true, pairU x y, .bool true])) w') :
    wpList Tryd.prog ops Q (o :: rest) a w := by
  obtain ⟨n, D, left, hr, hF, hD⟩ := h
  refine wpList_plain hg fun K' hK' => ?_
  unfold Oper.wp
  rcases hr.next keyU o.type with ⟨h0, hl, hrun⟩ | ⟨key, v, kl, y, w', cnt', hkey, hlk, hv, hat, hrun, hrg, hlt, hgr, hsz, hen⟩
  · simp [execOp, hop, hit, hrun, Result.andThen]
    refine hK' _ _ (hDone h0 fun x y hx hy hf => ?_)
    have h2 := (hF.at hx hy).2 hf
    rw [hl] at h2
    cases h2
  · obtain ⟨x, z, hx, hz, hf, rfl⟩ := (hF kl).1 hlk
    obtain rfl : key = pairU x z := keyU.inj hkey (key_lit hx hz)
    obtain ⟨c, rfl, hyc⟩ := plainB_inv Tryd.underlying4 hv
    have hct : c = true := by
      have h2 := hD _ hlk
      have h3 := (hat _).symm.trans h2
      rw [hyc] at h3
      cases c with
      | true => rfl
      | false => exact absurd h3 (by simp)
    subst hct
    simp [execOp, hop, hit, hrun, Result.andThen]
    refine hK' _ _ (hMore x z w' cnt' hx hz hf ⟨n, D, _, hrg, fun kl => ?_, fun kl hkl => hD kl (by simp only [Bool.and_eq_true] at hkl; exact hkl.1)⟩ hlt hgr hen)
    simp only [Bool.and_eq_true, Bool.not_eq_true']
    constructor
    · rintro ⟨h1, h2⟩
      obtain ⟨x', y', hx', hy', hf', rfl⟩ := (hF kl).1 h1
      refine ⟨x', y', hx', hy', ⟨hf', fun e => ?_⟩, rfl⟩
      rw [(lit_same hx' hy' hx hz).2 e] at h2
      cases h2
    · rintro ⟨x', y', hx', hy', ⟨hf', hne⟩, rfl⟩
      refine ⟨(hF.at hx' hy').2 hf', ?_⟩
      cases h3 : (litU x' y').sameKey (litU x z)
      · rfl
      · exact absurd ((lit_same hx' hy' hx hz).1 h3) hne
end
end Tu
end Go.Proofs.YtjhcemhnnkcjaaaDoor
