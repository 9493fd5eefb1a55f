/- packet's within, Check, stocked, ordered. -/
import Derived.Test.YthbkfhhnhiplkaaGreatDoorBuC
import Derived.Test.YthbkfhhnhiplkaaGreatDoorPkP
import Derived.Test.YthbkfhhnhiplkaaGreatDoorShelf
namespace Go.Proofs.YthbkfhhnhiplkaaGreatDoor
open Go.RowKit
namespace Pk
open Bu (natI natI_at)
set_option maxRecDepth 100000 in
set_option maxHeartbeats 1000000 in
theorem within_any (n a b : Int) (w : World) : Calls Tryz.prog 135 #[.int .i64 n, .int .i64 a, .int .i64 b] w fun e w' => e = .returned (.bool (decide (a ≤ n ∧ n ≤ b))) ∧ w' = w := by
  by_cases h1 : a ≤ n
  · by_cases h2 : n ≤ b
    · have hR := Lib.hid (show decide (a ≤ n ∧ n ≤ b) = true by simp [h1, h2])
      go_enter Tryz.func135, Tryz.ntmps135
      go_wp2_with (fail)
      go_ret
      exact ⟨by first | rfl | (rw [hR.out]; rfl), rfl⟩
    · have hR := Lib.hid (show decide (a ≤ n ∧ n ≤ b) = false by simp [h2])
      have h3 : decide (n ≤ b) = false := by simp [h2]
      go_enter Tryz.func135, Tryz.ntmps135
      go_wp2_with (fail)
      go_ret
      exact ⟨by first | rfl | (rw [hR.out]; rfl), rfl⟩
  · have hR := Lib.hid (show decide (a ≤ n ∧ n ≤ b) = false by simp [h1])
    have h3 : decide (a ≤ n) = false := by simp [h1]
    go_enter Tryz.func135, Tryz.ntmps135
    go_wp2_with (fail)
    go_ret
    exact ⟨by first | rfl | (rw [hR.out]; rfl), rfl⟩
/-- sizes -/
structure Siz (ss : List Nat) : Prop where
  one : 1 ≤ ss.length
  five : ss.length ≤ 5
  rng : ∀ x ∈ ss, 1 ≤ x ∧ x ≤ 30
  asc : ss.Pairwise (fun a b => a < b)
set_option maxRecDepth 100000 in
set_option maxHeartbeats 1000000 in
theorem Check_ok (A : Option Addr) (n c : Nat) (ss : List Nat) (hD : Siz ss) (w : World) (B : Nat) (hr : RInts w B A n (natI ss)) : Calls Tryz.prog 148 #[.slice A n c] w fun e w' => e = .returned (.int .i64 0) ∧ w' = w := by
  have hln := hr.len
  have hxl : ss.length = n := by simpa [natI] using hln
  have hDH := Lib.hid hD
  have h1 := hD.one
  have h5 := hD.five
  have hn0 : ((n : Int) == 0) = false := by simp; omega
  have hn5 : ¬ (5 : Int) < n := by omega
  go_enter Tryz.func148, Tryz.ntmps148
  go_wp2_with (fail)
  go_loopw [3, 16] (fun l v wr => ∃ i last : Nat, i ≤ n ∧ v = .int .i64 i ∧ l = .int .i64 last ∧ Hid (∀ x, ss[i]? = some x → last < x) ∧ w = wr) (fun _ v _ => n - (intOf v).toNat)
  case atStart => exact ⟨0, 0, by omega, rfl, rfl, Lib.hid (fun x hx => by have := (hDH.out.rng x (List.mem_of_getElem? hx)).1; omega), rfl⟩
  case round =>
    obtain ⟨i, last, hi, rfl, rfl, hlast, hw⟩ := hrel
    subst hw
    by_cases hlt : i < n
    · have hlti : (i : Int) < n := by omega
      obtain ⟨ad, z, rfl, _, hcell, hz⟩ := hr.at_ hlt
      obtain ⟨x, hx, rfl⟩ := natI_at hz.out
      have hxp := hDH.out.rng x (List.mem_of_getElem? hx)
      have hxl2 := hlast.out x hx
      have hxl3 : ¬ (x : Int) ≤ last := by omega
      have hwi := Lib.hid (fun w' => within_any (x : Int) 1 30 w')
      rw [decide_eq_true (by omega)] at hwi
      have hnext := Lib.hid (show ∀ y, ss[i + 1]? = some y → x < y from fun y hy => by
        obtain ⟨h1, e1⟩ := List.getElem?_eq_some_iff.1 hx
        obtain ⟨h2, e2⟩ := List.getElem?_eq_some_iff.1 hy
        have := List.pairwise_iff_getElem.1 hDH.out.asc i (i + 1) h1 h2 (by omega)
        rw [e1, e2] at this
        exact this)
      clear hx
      go_wp2_with (first
        | (go_at_call 135; (with_reducible refine (hwi.out _).mono ?_); rintro e wz ⟨rfl, hwz⟩; replace hwz := hwz.symm; subst hwz))
      go_roundw
      case rel => exact ⟨i + 1, x, by omega, by go_num, rfl, hnext, by first | rfl | trivial⟩
      case measure => simp only [intOf]; omega
    · have hlti : ¬ (i : Int) < n := by omega
      go_wp2_with (fail)
      go_ret
      exact ⟨rfl, rfl⟩
/-- what a stock holds -/
structure Stk (ss ms : List Nat) : Prop where
  siz : Siz ss
  len : ms.length = ss.length
  rng : ∀ x ∈ ms, x ≤ 40
theorem RInts.none_none {w : World} {B n : Nat} {b o : Nat} {xs : List Int} (h : RInts w B (some ⟨b, o, none⟩) n xs) : ∀ j, j < xs.length → w.cell? ⟨b, o + j, none⟩ = some (.int .i64 (xs.getD j 0)) := by
  intro j hj
  have hl := h.len
  obtain ⟨ad, x, e, _, hc, hx⟩ := h.at_ (show j < n by omega)
  obtain rfl : (⟨b, o, none⟩ : Addr) = ad := by simpa using e
  rw [List.getD_eq_getElem?_getD, hx.out, Option.getD_some, ← hc]
  congr 1
  unfold Addr.add
  split
  · subst_vars; rfl
  · rfl
theorem foldl_max_le {m : Int} (xs : List Int) : ∀ a, a ≤ m → (∀ x ∈ xs, x ≤ m) → xs.foldl max a ≤ m := by
  induction xs with
  | nil => intro a h _; exact h
  | cons x r ih =>
    intro a h hx
    rw [List.foldl_cons]
    exact ih _ (by have := hx x (by simp); omega) fun y hy => hx y (by simp [hy])
theorem le_foldl_min {m : Int} (xs : List Int) : ∀ a, m ≤ a → (∀ x ∈ xs, m ≤ x) → m ≤ xs.foldl min a := by
  induction xs with
  | nil => intro a h _; exact h
  | cons x r ih =>
    intro a h hx
    rw [List.foldl_cons]
    exact ih _ (by have := hx x (by simp); omega) fun y hy => hx y (by simp [hy])
theorem maxOf_le {xs : List Int} {m : Int} (h0 : 0 < xs.length) (h : ∀ x ∈ xs, x ≤ m) : Lib.maxOf xs ≤ m := by
  cases xs with
  | nil => simp at h0
  | cons x r => exact foldl_max_le _ _ (h x (by simp)) h
theorem minOf_ge {xs : List Int} {m : Int} (h0 : 0 < xs.length) (h : ∀ x ∈ xs, m ≤ x) : m ≤ Lib.minOf xs := by
  cases xs with
  | nil => simp at h0
  | cons x r => exact le_foldl_min _ _ (h x (by simp)) h
/-- the value of a store -/
def stC (A : Option Addr) (n c : Nat) (A2 : Option Addr) (n2 c2 : Nat) : Array Value := #[.slice A n c, .slice A2 n2 c2]
theorem zero_store (w : World) : (zeroValue 191).run Tryz.prog w = .ok (.agg (stC none 0 0 none 0 0)) w := by
  exact Tryz.zeroValue191 w
theorem info_store (A : Option Addr) (n c : Nat) (A2 : Option Addr) (n2 c2 : Nat) : (Tryz.prog.info? 191).map (·.size) = some (stC A n c A2 n2 c2).size := by
  show _ = some 2
  kernel_rfl
theorem stC_one (A : Option Addr) (n c : Nat) (A2 : Option Addr) (n2 c2 : Nat) : (stC A n c A2 n2 c2).all (·.oneCell') = true := by
  simp [stC, Value.oneCell']
set_option maxRecDepth 100000 in
set_option maxHeartbeats 2000000 in
theorem stocked_ok (A : Option Addr) (n c : Nat) (b2 o2 c2 : Nat) (ss ms : List Nat) (hS : Stk ss ms) (w : World) (B : Nat) (hB : B ≤ w.heap.size) (hr : RInts w B A n (natI ss)) (hr2 : RInts w B (some ⟨b2, o2, none⟩) n (natI ms)) : Calls Tryz.prog 134 #[.slice A n c, .slice (some ⟨b2, o2, none⟩) n c2] w fun e w' => e = .returned (.tuple #[.agg (stC A n c (some ⟨b2, o2, none⟩) n c2), .int .i64 0]) ∧ Below w.heap.size w w' := by
  have hl2 := hr2.len
  have hl1 : ss.length = n := by simpa [natI] using hr.len
  have h1 := hS.siz.one
  have h5 := hS.siz.five
  have hck := Lib.hid (fun w' (h : RInts w' B A n (natI ss)) => Check_ok A n c ss hS.siz w' B h)
  obtain ⟨mn, hmn⟩ : ∃ m, Lib.minOf ((natI ms).take n) = m := ⟨_, rfl⟩
  obtain ⟨mx, hmx⟩ : ∃ m, Lib.maxOf ((natI ms).take n) = m := ⟨_, rfl⟩
  have hmem : ∀ x ∈ natI ms, 0 ≤ x ∧ x ≤ 40 := fun x hx => by
    obtain ⟨y, hy, rfl⟩ := List.mem_map.1 hx
    have := hS.rng y hy
    omega
  have hmn0 : ¬ mn < 0 := by
    have := minOf_ge (xs := (natI ms).take n) (m := 0) (by rw [List.length_take]; omega) (fun x hx => (hmem x (List.mem_of_mem_take hx)).1)
    omega
  have hmx0 : ¬ (40 : Int) < mx := by
    have := maxOf_le (xs := (natI ms).take n) (m := 40) (by rw [List.length_take]; omega) (fun x hx => (hmem x (List.mem_of_mem_take hx)).2)
    omega
  have cmn := Lib.hid (fun w' (h : RInts w' B (some ⟨b2, o2, none⟩) n (natI ms)) => Tryz.slices_Min_int b2 o2 n c2 (natI ms) w' (by omega) (by omega) (by omega) (RInts.none_none h))
  have cmx := Lib.hid (fun w' (h : RInts w' B (some ⟨b2, o2, none⟩) n (natI ms)) => Tryz.slices_Max_int b2 o2 n c2 (natI ms) w' (by omega) (by omega) (by omega) (RInts.none_none h))
  rw [hmn] at cmn
  rw [hmx] at cmx
  clear hmn hmx hmem hS
  go_enter Tryz.func134, Tryz.ntmps134
  go_wp2_with (first
    | (with_reducible show wpList _ _ _ (⟨_, .alloc 191, _, _, _, _⟩ :: _) _ _
       refine wpList_alloc_blk rfl 191 rfl _ zero_store ?_
       intro w3 g hG hgr hge
       have hb3 := below_none (Below.refl w.heap.size w) hgr (Nat.le_refl _))
    | (go_at_call 148; (with_reducible refine (hck.out _ (hr.later hB hb3)).mono ?_); rintro e wz ⟨rfl, hwz⟩; replace hwz := hwz.symm; subst hwz)
    | (go_at_call 149; (with_reducible refine (cmn.out _ (hr2.later hB hb3)).mono ?_); rintro e wz ⟨rfl, hwz⟩; replace hwz := hwz.symm; subst hwz)
    | (go_at_call 14; (with_reducible refine (cmx.out _ (hr2.later hB hb3)).mono ?_); rintro e wz ⟨rfl, hwz⟩; replace hwz := hwz.symm; subst hwz)
    | (with_reducible show wpList _ _ _ (⟨_, .store 191 (.tmp 4) _, _, _, _, _⟩ :: _) _ _
       refine wpList_store_blk rfl 191 _ _ rfl g (stC A n c (some ⟨b2, o2, none⟩) n c2) rfl rfl 191 _ hG (info_store _ _ _ _ _ _) rfl (stC_one _ _ _ _ _ _) ?_
       intro w5 hG5 hgr5
       have hb5 := below_some hb3 hgr5 hb3.size hge))
  exact bodyPost_ret (results_cell_tmp rfl _ _ g 191 _ (0, 0) _ rfl hG5 Tryz.underlying191 rfl (info_store _ _ _ _ _ _)) rfl ⟨rfl, hb5⟩
end Pk
end Go.Proofs.YthbkfhhnhiplkaaGreatDoor
