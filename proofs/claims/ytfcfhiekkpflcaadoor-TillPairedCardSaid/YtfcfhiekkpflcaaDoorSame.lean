/- The law's own list, same and pairs: lists are compared. -/
import Derived.Test.YtfcfhiekkpflcaaDoorServed
import Derived.Laws.StructEq
import Derived.Deep.QuietTactic
import Derived.BigQuiet
namespace Go.Proofs.YtfcfhiekkpflcaaDoor
open Go.RowKit

theorem eq_of_takes {n : Nat} {xs ys : List Int} (hx : xs.length = n) (hy : ys.length = n) (h : xs.take n = ys.take n) : xs = ys := by
  rwa [List.take_of_length_le (by omega), List.take_of_length_le (by omega)] at h
theorem take_step {k : Nat} {xs ys : List Int} {x : Int} (h : xs.take k = ys.take k) (hx : xs[k]? = some x) (hy : ys[k]? = some x) : xs.take (k + 1) = ys.take (k + 1) := by
  rw [List.take_add_one, List.take_add_one, h, hx, hy]
theorem ne_of_get {k : Nat} {xs ys : List Int} {x y : Int} (hx : xs[k]? = some x) (hy : ys[k]? = some y) (he : x ≠ y) : (xs == ys) = false := by
  rw [beq_eq_false_iff_ne]; rintro rfl; rw [hx] at hy; exact he (by injection hy)

set_option maxHeartbeats 400000 in
theorem same_any (A B : Option Addr) (n m c d : Nat) (xs ys : List Int) (w : World) (BL : Nat) (ha : RInts w BL A n xs) (hb : RInts w BL B m ys) (hn : n ≤ maxLen) (hm : m ≤ maxLen) :
    Calls Tryd.prog 20 #[.slice A n c, .slice B m d] w fun e w' => e = .returned (.bool (xs == ys)) ∧ ∃ q, w' = w.drewN q := by
  unfold maxLen at hn hm
  have hxl := Lib.hid ha.len
  have hyl := Lib.hid hb.len
  by_cases hnm : n = m
  · subst hnm
    go_enter Tryd.func20, Tryd.ntmps20
    go_wp2
    go_loopw [5] (fun i wr => ∃ k q : Nat, k ≤ n ∧ i = .int .i64 k ∧ Hid (xs.take k = ys.take k) ∧ wr = w.drewN q) (fun i _ => n - (intOf i).toNat)
    case atStart => exact ⟨0, 0, by omega, rfl, rfl, rfl⟩
    case round =>
      obtain ⟨k, q, hk, rfl, hT, rfl⟩ := hrel
      by_cases hlt : k < n
      · obtain ⟨ad, x, rfl, _, h1, hx⟩ := ha.at_ hlt
        obtain ⟨bd, y, rfl, _, h2, hy⟩ := hb.at_ hlt
        by_cases he : x = y
        · subst he
          have hS := Lib.hid (take_step hT.out hx.out hy.out)
          have hB : (x != x) = false := by simp
          go_wp2_with (fail)
          go_quiet (fail)
          go_wp2
          go_roundw
          case rel => exact ⟨k + 1, _, by omega, by go_num, hS, rfl⟩
          case measure => simp [intOf]; omega
        · have hB : (x != y) = true := by simpa using he
          have hN := Lib.hid (ne_of_get hx.out hy.out he)
          clear he
          go_wp2_with (fail)
          go_quiet (fail)
          go_wp2
          go_ret
          exact ⟨by rw [hN.out]; rfl, _, World.drewN_drewN _ _ _⟩
      · have hkn : k = n := by omega
        subst hkn
        have hE := Lib.hid (eq_of_takes hxl.out hyl.out hT.out)
        go_wp2
        go_ret
        exact ⟨by rw [hE.out]; simp, _, rfl⟩
  · have hN := Lib.hid (show (xs == ys) = false by rw [beq_eq_false_iff_ne]; rintro rfl; exact hnm (hxl.out.symm.trans hyl.out))
    have hB : ((n : Int) != (m : Int)) = true := by simp; omega
    go_enter Tryd.func20, Tryd.ntmps20
    go_wp2
    go_ret
    exact ⟨by rw [hN.out]; rfl, 0, rfl⟩
set_option maxRecDepth 100000 in
theorem list_any (v : Value) (w : World) : Calls Tryd.prog 43 #[v] w fun e w' => e = .returned v ∧ w' = w := by
  go_enter Tryd.func43, Tryd.ntmps43
  go_wp2_with (fail)
  go_ret
  exact ⟨rfl, rfl⟩
/-- a slice that reads as a list of pairs -/
def RPr (w : World) (B : Nat) (A : Option Addr) (ps : List (Nat × Nat)) : Prop :=
  0 < ps.length → ∃ g, A = some ⟨g, 0, none⟩ ∧ g < B ∧ ∀ i x y, ps[i]? = some (x, y) → w.cell? ⟨g, i * 2, none⟩ = some (.int .i64 (x : Nat)) ∧ w.cell? ⟨g, i * 2 + 1, none⟩ = some (.int .i64 (y : Nat))
theorem RPr.below {w w' : World} {B : Nat} {A : Option Addr} {ps : List (Nat × Nat)} (h : RPr w B A ps) (hb : Below B w w') : RPr w' B A ps := fun hn => by
  obtain ⟨g, e, hg, hc⟩ := h hn
  exact ⟨g, e, hg, fun i x y hi => ⟨(hb.cell (p := ⟨g, i * 2, none⟩) hg).trans (hc i x y hi).1, (hb.cell (p := ⟨g, i * 2 + 1, none⟩) hg).trans (hc i x y hi).2⟩⟩
theorem pairsV_at : ∀ (ps : List (Nat × Nat)) (i x y : Nat), ps[i]? = some (x, y) → (pairsV ps)[i * 2]? = some (.int .i64 (x : Nat)) ∧ (pairsV ps)[i * 2 + 1]? = some (.int .i64 (y : Nat)) := by
  intro ps
  induction ps with
  | nil => intro i x y h; simp at h
  | cons p ps ih =>
    intro i x y h
    have e : pairsV (p :: ps) = .int .i64 (p.1 : Nat) :: .int .i64 (p.2 : Nat) :: pairsV ps := rfl
    rw [e]
    match i with
    | 0 =>
      obtain rfl : p = (x, y) := by simpa using h
      exact ⟨rfl, rfl⟩
    | i + 1 =>
      have := ih i x y (by simpa using h)
      rw [show (i + 1) * 2 = i * 2 + 1 + 1 by omega, List.getElem?_cons_succ, List.getElem?_cons_succ, show i * 2 + 1 + 1 + 1 = (i * 2 + 1) + 1 + 1 by omega, List.getElem?_cons_succ, List.getElem?_cons_succ]
      exact this
theorem OwnP.reads {w : World} {base : Nat} {v : Value} {ps : List (Nat × Nat)} (h : OwnP w base v ps) : ∃ A c, v = .slice A ps.length c ∧ RPr w w.heap.size A ps := by
  rcases h.2 with ⟨rfl, h0⟩ | ⟨g, cap, cur, rfl, hb, hg, r⟩
  · exact ⟨none, 0, by rw [h0], fun hn => by omega⟩
  · refine ⟨_, _, rfl, fun hn => ?_⟩
    have hr := Reads.of_own h
    obtain ⟨ad, e, hlt, hc⟩ := hr.2 hn
    obtain rfl : (⟨g, 0, none⟩ : Addr) = ad := by injection e
    refine ⟨g, rfl, hlt, fun i x y hi => ?_⟩
    obtain ⟨h1, h2⟩ := pairsV_at ps i x y hi
    have q1 := hc _ _ h1
    have q2 := hc _ _ h2
    rw [Addr.add_lit, Nat.zero_add] at q1 q2
    exact ⟨q1, q2⟩
theorem eqPair (a b c d : Int) (w : World) : (Op.equalIn 10000 52 (.agg #[.int .i64 a, .int .i64 b]) (.agg #[.int .i64 c, .int .i64 d])).run Tryd.prog w = .ok (a == c && b == d) w := by
  have u3 := Tryd.underlying3
  have a3 := Tryd.isAgg3
  have z3 := Tryd.sizeOf3
  rw [show (10000 : Nat) = 9999 + 1 from rfl, Op.equalIn]
  simp only [Sem.run_bind, run_underlying Tryd.underlying52, Result.andThen_ok]
  simp only [Std.Legacy.Range.forIn_eq_forIn_range', Std.Legacy.Range.size, Nat.sub_zero, Nat.add_sub_cancel, Nat.div_one, List.range'_succ, List.range'_zero, List.forIn_cons, List.forIn_nil]
  go_simp
  by_cases h1 : a = c <;> by_cases h2 : b = d <;> simp [h1, h2]
theorem takeP_step {k : Nat} {xs ys : List (Nat × Nat)} {x : Nat × Nat} (h : xs.take k = ys.take k) (hx : xs[k]? = some x) (hy : ys[k]? = some x) : xs.take (k + 1) = ys.take (k + 1) := by
  rw [List.take_add_one, List.take_add_one, h, hx, hy]
theorem neP_of_get {k : Nat} {xs ys : List (Nat × Nat)} {x y : Nat × Nat} (hx : xs[k]? = some x) (hy : ys[k]? = some y) (he : x ≠ y) : (xs == ys) = false := by
  rw [beq_eq_false_iff_ne]; rintro rfl; rw [hx] at hy; exact he (by injection hy)
set_option maxRecDepth 100000 in
set_option maxHeartbeats 4000000 in
theorem pairs_any (A B : Option Addr) (c d : Nat) (xs ys : List (Nat × Nat)) (w : World) (BL : Nat) (ha : RPr w BL A xs) (hb : RPr w BL B ys) (hn : xs.length ≤ 1000000) (hm : ys.length ≤ 1000000) :
    Calls Tryd.prog 39 #[.slice A xs.length c, .slice B ys.length d] w fun e w' => e = .returned (.bool (xs == ys)) ∧ ∃ q, w' = w.drewN q := by
  by_cases hnm : xs.length = ys.length
  · obtain ⟨n, hxl⟩ : ∃ n, xs.length = n := ⟨_, rfl⟩
    rw [hxl] at hnm hn ⊢
    replace hnm := hnm.symm
    rw [hnm]
    replace hnm := Lib.hid hnm
    replace hxl := Lib.hid hxl
    clear hm
    have uP := Tryd.underlying52
    have aP := Tryd.isAgg52
    have zP := Tryd.sizeOf52
    go_enter Tryd.func39, Tryd.ntmps39
    go_wp2
    go_loopw [5] (fun i wr => ∃ k q : Nat, k ≤ n ∧ i = .int .i64 k ∧ Hid (xs.take k = ys.take k) ∧ wr = w.drewN q) (fun i _ => n - (intOf i).toNat)
    case atStart => exact ⟨0, 0, by omega, rfl, rfl, rfl⟩
    case round =>
      obtain ⟨k, q, hk, rfl, hT, rfl⟩ := hrel
      by_cases hlt : k < n
      · have hlti : (k : Int) < n := by omega
        obtain ⟨ga, rfl, hga, hca⟩ := ha (by rw [hxl.out]; omega)
        obtain ⟨gb, rfl, hgb, hcb⟩ := hb (by rw [hnm.out]; omega)
        obtain ⟨⟨x1, x2⟩, hx⟩ : ∃ x, xs[k]? = some x := ⟨_, List.getElem?_eq_getElem (by rw [hxl.out]; exact hlt)⟩
        obtain ⟨⟨y1, y2⟩, hy⟩ : ∃ x, ys[k]? = some x := ⟨_, List.getElem?_eq_getElem (by rw [hnm.out]; exact hlt)⟩
        obtain ⟨a1, a2⟩ := hca k x1 x2 hx
        obtain ⟨b1, b2⟩ := hcb k y1 y2 hy
        by_cases he : x1 = y1 ∧ x2 = y2
        · obtain ⟨rfl, rfl⟩ := he
          have hS := Lib.hid (takeP_step hT.out hx hy)
          have heq : ∀ w', (Op.equalIn 10000 52 (.agg #[.int .i64 (x1 : Nat), .int .i64 (x2 : Nat)]) (.agg #[.int .i64 (x1 : Nat), .int .i64 (x2 : Nat)])).run Tryd.prog w' = .ok true w' := fun w' => by rw [eqPair]; simp
          clear hx hy
          go_wp2_with (fail)
          go_quiet (fail)
          go_wp2
          go_roundw
          case rel => exact ⟨k + 1, _, by omega, by go_num, hS, rfl⟩
          case measure => simp [intOf]; omega
        · have hN := Lib.hid (neP_of_get hx hy (fun e => he (by injection e with e1 e2; exact ⟨e1, e2⟩)))
          have heq : ∀ w', (Op.equalIn 10000 52 (.agg #[.int .i64 (x1 : Nat), .int .i64 (x2 : Nat)]) (.agg #[.int .i64 (y1 : Nat), .int .i64 (y2 : Nat)])).run Tryd.prog w' = .ok false w' := fun w' => by rw [eqPair]; congr 1; simp; omega
          clear he hx hy
          go_wp2_with (fail)
          go_quiet (fail)
          go_wp2
          go_ret
          exact ⟨by rw [hN.out]; rfl, _, World.drewN_drewN _ _ _⟩
      · have hlti : ¬ (k : Int) < n := by omega
        obtain rfl : k = n := by omega
        have hE := Lib.hid (show xs = ys by
          have := hT.out
          rwa [List.take_of_length_le (by rw [hxl.out]; omega), List.take_of_length_le (by rw [hnm.out]; omega)] at this)
        go_wp2
        go_ret
        exact ⟨by rw [hE.out]; simp, _, rfl⟩
  · have hN := Lib.hid (show (xs == ys) = false by rw [beq_eq_false_iff_ne]; rintro rfl; exact hnm rfl)
    have hB : ((xs.length : Int) != (ys.length : Int)) = true := by simp; omega
    go_enter Tryd.func39, Tryd.ntmps39
    go_wp2
    go_ret
    exact ⟨by rw [hN.out]; rfl, 0, rfl⟩
end Go.Proofs.YtfcfhiekkpflcaaDoor
