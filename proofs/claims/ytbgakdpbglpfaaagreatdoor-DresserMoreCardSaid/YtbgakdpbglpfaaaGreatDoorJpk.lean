/- The texts PkA to PkF, joined by joinlist.py: their statements say what each proves. -/
import Derived.Test.YtbgakdpbglpfaaaGreatDoorJbu
import Derived.Test.YtbgakdpbglpfaaaGreatDoorPkP
import Derived.Test.YtbgakdpbglpfaaaGreatDoorShelf
import Derived.Test.YtbgakdpbglpfaaaGreatDoorJpu
import Derived.Deep.CutRange
import Derived.Deep.RegionHeld3
-- the text PkA
namespace Go.Proofs.YtbgakdpbglpfaaaGreatDoor
open Go.RowKit
namespace Pk
open Bu (natI natI_at)
set_option maxRecDepth 100000 in
set_option maxHeartbeats 1000000 in
theorem within_any (n a b : Int) (w : World) : Calls Tryz.prog 141 #[.int .i64 n, .int .i64 a, .int .i64 b] w fun e w' => e = .returned (.bool (decide (a ≤ n ∧ n ≤ b))) ∧ w' = w := by
  by_cases h1 : a ≤ n
  · by_cases h2 : n ≤ b
    · have hR := Lib.hid (show decide (a ≤ n ∧ n ≤ b) = true by simp [h1, h2])
      go_enter Tryz.func141, Tryz.ntmps141
      go_wp2_with (fail)
      go_ret
      exact ⟨by first | rfl | (rw [hR.out]; rfl), rfl⟩
    · have hR := Lib.hid (show decide (a ≤ n ∧ n ≤ b) = false by simp [h2])
      have h3 : decide (n ≤ b) = false := by simp [h2]
      go_enter Tryz.func141, Tryz.ntmps141
      go_wp2_with (fail)
      go_ret
      exact ⟨by first | rfl | (rw [hR.out]; rfl), rfl⟩
  · have hR := Lib.hid (show decide (a ≤ n ∧ n ≤ b) = false by simp [h1])
    have h3 : decide (a ≤ n) = false := by simp [h1]
    go_enter Tryz.func141, Tryz.ntmps141
    go_wp2_with (fail)
    go_ret
    exact ⟨by first | rfl | (rw [hR.out]; rfl), rfl⟩
/-- sizes -/
structure Siz (ss : List Nat) : Prop where
  one : 1 ≤ ss.length
  five : ss.length ≤ 5
  rng : ∀ x ∈ ss, 1 ≤ x ∧ x ≤ 30
  asc : ss.Pairwise (fun a b => a < b)
set_option maxRecDepth 100000 in
set_option maxHeartbeats 1000000 in
theorem Check_ok (A : Option Addr) (n c : Nat) (ss : List Nat) (hD : Siz ss) (w : World) (B : Nat) (hr : RInts w B A n (natI ss)) : Calls Tryz.prog 137 #[.slice A n c] w fun e w' => e = .returned (.int .i64 0) ∧ w' = w := by
  have hln := hr.len
  have hxl : ss.length = n := by simpa [natI] using hln
  have hDH := Lib.hid hD
  have h1 := hD.one
  have h5 := hD.five
  have hn0 : ((n : Int) == 0) = false := by simp; omega
  have hn5 : ¬ (5 : Int) < n := by omega
  go_enter Tryz.func137, Tryz.ntmps137
  go_wp2_with (fail)
  go_loopw [3, 16] (fun l v wr => ∃ i last : Nat, i ≤ n ∧ v = .int .i64 i ∧ l = .int .i64 last ∧ Hid (∀ x, ss[i]? = some x → last < x) ∧ w = wr) (fun _ v _ => n - (intOf v).toNat)
  case atStart => exact ⟨0, 0, by omega, rfl, rfl, Lib.hid (fun x hx => by have := (hDH.out.rng x (List.mem_of_getElem? hx)).1; omega), rfl⟩
  case round =>
    obtain ⟨i, last, hi, rfl, rfl, hlast, hw⟩ := hrel
    subst hw
    by_cases hlt : i < n
    · have hlti : (i : Int) < n := by omega
      obtain ⟨ad, z, rfl, _, hcell, hz⟩ := hr.at_ hlt
      obtain ⟨x, hx, rfl⟩ := natI_at hz.out
      have hxp := hDH.out.rng x (List.mem_of_getElem? hx)
      have hxl2 := hlast.out x hx
      have hxl3 : ¬ (x : Int) ≤ last := by omega
      have hwi := Lib.hid (fun w' => within_any (x : Int) 1 30 w')
      rw [decide_eq_true (by omega)] at hwi
      have hnext := Lib.hid (show ∀ y, ss[i + 1]? = some y → x < y from fun y hy => by
        obtain ⟨h1, e1⟩ := List.getElem?_eq_some_iff.1 hx
        obtain ⟨h2, e2⟩ := List.getElem?_eq_some_iff.1 hy
        have := List.pairwise_iff_getElem.1 hDH.out.asc i (i + 1) h1 h2 (by omega)
        rw [e1, e2] at this
        exact this)
      clear hx
      go_wp2_with (first
        | (go_at_call 141; (with_reducible refine (hwi.out _).mono ?_); rintro e wz ⟨rfl, hwz⟩; replace hwz := hwz.symm; subst hwz))
      go_roundw
      case rel => exact ⟨i + 1, x, by omega, by go_num, rfl, hnext, by first | rfl | trivial⟩
      case measure => simp only [intOf]; omega
    · have hlti : ¬ (i : Int) < n := by omega
      go_wp2_with (fail)
      go_ret
      exact ⟨rfl, rfl⟩
/-- what a stock holds -/
structure Stk (ss ms : List Nat) : Prop where
  siz : Siz ss
  len : ms.length = ss.length
  rng : ∀ x ∈ ms, x ≤ 40
theorem RInts.none_none {w : World} {B n : Nat} {b o : Nat} {xs : List Int} (h : RInts w B (some ⟨b, o, none⟩) n xs) : ∀ j, j < xs.length → w.cell? ⟨b, o + j, none⟩ = some (.int .i64 (xs.getD j 0)) := by
  intro j hj
  have hl := h.len
  obtain ⟨ad, x, e, _, hc, hx⟩ := h.at_ (show j < n by omega)
  obtain rfl : (⟨b, o, none⟩ : Addr) = ad := by simpa using e
  rw [List.getD_eq_getElem?_getD, hx.out, Option.getD_some, ← hc]
  congr 1
  unfold Addr.add
  split
  · subst_vars; rfl
  · rfl
theorem foldl_max_le {m : Int} (xs : List Int) : ∀ a, a ≤ m → (∀ x ∈ xs, x ≤ m) → xs.foldl max a ≤ m := by
  induction xs with
  | nil => intro a h _; exact h
  | cons x r ih =>
    intro a h hx
    rw [List.foldl_cons]
    exact ih _ (by have := hx x (by simp); omega) fun y hy => hx y (by simp [hy])
theorem le_foldl_min {m : Int} (xs : List Int) : ∀ a, m ≤ a → (∀ x ∈ xs, m ≤ x) → m ≤ xs.foldl min a := by
  induction xs with
  | nil => intro a h _; exact h
  | cons x r ih =>
    intro a h hx
    rw [List.foldl_cons]
    exact ih _ (by have := hx x (by simp); omega) fun y hy => hx y (by simp [hy])
theorem maxOf_le {xs : List Int} {m : Int} (h0 : 0 < xs.length) (h : ∀ x ∈ xs, x ≤ m) : Lib.maxOf xs ≤ m := by
  cases xs with
  | nil => simp at h0
  | cons x r => exact foldl_max_le _ _ (h x (by simp)) h
theorem minOf_ge {xs : List Int} {m : Int} (h0 : 0 < xs.length) (h : ∀ x ∈ xs, m ≤ x) : m ≤ Lib.minOf xs := by
  cases xs with
  | nil => simp at h0
  | cons x r => exact le_foldl_min _ _ (h x (by simp)) h
/-- the value of a store -/
def stC (A : Option Addr) (n c : Nat) (A2 : Option Addr) (n2 c2 : Nat) : Array Value := #[.slice A n c, .slice A2 n2 c2]
theorem zero_store (w : World) : (zeroValue 152).run Tryz.prog w = .ok (.agg (stC none 0 0 none 0 0)) w := by
  exact Tryz.zeroValue152 w
theorem info_store (A : Option Addr) (n c : Nat) (A2 : Option Addr) (n2 c2 : Nat) : (Tryz.prog.info? 152).map (·.size) = some (stC A n c A2 n2 c2).size := by
  show _ = some 2
  kernel_rfl
theorem stC_one (A : Option Addr) (n c : Nat) (A2 : Option Addr) (n2 c2 : Nat) : (stC A n c A2 n2 c2).all (·.oneCell') = true := by
  simp [stC, Value.oneCell']
set_option maxRecDepth 100000 in
set_option maxHeartbeats 2000000 in
theorem stocked_ok (A : Option Addr) (n c : Nat) (b2 o2 c2 : Nat) (ss ms : List Nat) (hS : Stk ss ms) (w : World) (B : Nat) (hB : B ≤ w.heap.size) (hr : RInts w B A n (natI ss)) (hr2 : RInts w B (some ⟨b2, o2, none⟩) n (natI ms)) : Calls Tryz.prog 101 #[.slice A n c, .slice (some ⟨b2, o2, none⟩) n c2] w fun e w' => e = .returned (.tuple #[.agg (stC A n c (some ⟨b2, o2, none⟩) n c2), .int .i64 0]) ∧ Below w.heap.size w w' := by
  have hl2 := hr2.len
  have hl1 : ss.length = n := by simpa [natI] using hr.len
  have h1 := hS.siz.one
  have h5 := hS.siz.five
  have hck := Lib.hid (fun w' (h : RInts w' B A n (natI ss)) => Check_ok A n c ss hS.siz w' B h)
  obtain ⟨mn, hmn⟩ : ∃ m, Lib.minOf ((natI ms).take n) = m := ⟨_, rfl⟩
  obtain ⟨mx, hmx⟩ : ∃ m, Lib.maxOf ((natI ms).take n) = m := ⟨_, rfl⟩
  have hmem : ∀ x ∈ natI ms, 0 ≤ x ∧ x ≤ 40 := fun x hx => by
    obtain ⟨y, hy, rfl⟩ := List.mem_map.1 hx
    have := hS.rng y hy
    omega
  have hmn0 : ¬ mn < 0 := by
    have := minOf_ge (xs := (natI ms).take n) (m := 0) (by rw [List.length_take]; omega) (fun x hx => (hmem x (List.mem_of_mem_take hx)).1)
    omega
  have hmx0 : ¬ (40 : Int) < mx := by
    have := maxOf_le (xs := (natI ms).take n) (m := 40) (by rw [List.length_take]; omega) (fun x hx => (hmem x (List.mem_of_mem_take hx)).2)
    omega
  have cmn := Lib.hid (fun w' (h : RInts w' B (some ⟨b2, o2, none⟩) n (natI ms)) => Tryz.slices_Min_int b2 o2 n c2 (natI ms) w' (by omega) (by omega) (by omega) (RInts.none_none h))
  have cmx := Lib.hid (fun w' (h : RInts w' B (some ⟨b2, o2, none⟩) n (natI ms)) => Tryz.slices_Max_int b2 o2 n c2 (natI ms) w' (by omega) (by omega) (by omega) (RInts.none_none h))
  rw [hmn] at cmn
  rw [hmx] at cmx
  clear hmn hmx hmem hS
  go_enter Tryz.func101, Tryz.ntmps101
  go_wp2_with (first
    | (with_reducible show wpList _ _ _ (⟨_, .alloc 152, _, _, _, _⟩ :: _) _ _
       refine wpList_alloc_blk rfl 152 rfl _ zero_store ?_
       intro w3 g hG hgr hge
       have hb3 := below_none (Below.refl w.heap.size w) hgr (Nat.le_refl _))
    | (go_at_call 137; (with_reducible refine (hck.out _ (hr.later hB hb3)).mono ?_); rintro e wz ⟨rfl, hwz⟩; replace hwz := hwz.symm; subst hwz)
    | (go_at_call 138; (with_reducible refine (cmn.out _ (hr2.later hB hb3)).mono ?_); rintro e wz ⟨rfl, hwz⟩; replace hwz := hwz.symm; subst hwz)
    | (go_at_call 139; (with_reducible refine (cmx.out _ (hr2.later hB hb3)).mono ?_); rintro e wz ⟨rfl, hwz⟩; replace hwz := hwz.symm; subst hwz)
    | (with_reducible show wpList _ _ _ (⟨_, .store 152 (.tmp 4) _, _, _, _, _⟩ :: _) _ _
       refine wpList_store_blk rfl 152 _ _ rfl g (stC A n c (some ⟨b2, o2, none⟩) n c2) rfl rfl 152 _ hG (info_store _ _ _ _ _ _) rfl (stC_one _ _ _ _ _ _) ?_
       intro w5 hG5 hgr5
       have hb5 := below_some hb3 hgr5 hb3.size hge))
  exact bodyPost_ret (results_cell_tmp rfl _ _ g 152 _ (0, 0) _ rfl hG5 Tryz.underlying152 rfl (info_store _ _ _ _ _ _)) rfl ⟨rfl, hb5⟩
end Pk
end Go.Proofs.YtbgakdpbglpfaaaGreatDoor
-- the text PkB
namespace Go.Proofs.YtbgakdpbglpfaaaGreatDoor
open Go.RowKit
namespace Pk
open Bu (natI natI_at)
set_option maxRecDepth 100000 in
set_option maxHeartbeats 2000000 in
theorem ordered_ok (A : Option Addr) (n c : Nat) (b2 o2 c2 : Nat) (ss ms : List Nat) (hS : Stk ss ms) (N : Nat) (hN : N ≤ 1000) (w : World) (B : Nat) (hB : B ≤ w.heap.size) (hr : RInts w B A n (natI ss)) (hr2 : RInts w B (some ⟨b2, o2, none⟩) n (natI ms)) : Calls Tryz.prog 104 #[.slice A n c, .slice (some ⟨b2, o2, none⟩) n c2, .int .i64 (N : Int)] w fun e w' => e = .returned (.tuple #[.agg (stC A n c (some ⟨b2, o2, none⟩) n c2), .int .i64 0]) ∧ Below w.heap.size w w' := by
  have hst := Lib.hid (fun w' (hB : B ≤ w'.heap.size) (h1 : RInts w' B A n (natI ss)) (h2 : RInts w' B (some ⟨b2, o2, none⟩) n (natI ms)) => stocked_ok A n c b2 o2 c2 ss ms hS w' B hB h1 h2)
  have hwi := Lib.hid (fun w' => within_any (N : Int) 0 1000 w')
  rw [decide_eq_true (by omega)] at hwi
  obtain ⟨T, hT⟩ : ∃ T, stC A n c (some ⟨b2, o2, none⟩) n c2 = T := ⟨_, rfl⟩
  have hT1 : T.all (·.oneCell') = true := by rw [← hT]; exact stC_one _ _ _ _ _ _
  have hT2 : (Tryz.prog.info? 152).map (·.size) = some T.size := by rw [← hT]; exact info_store _ _ _ _ _ _
  have hT3 : (stC none 0 0 none 0 0).size = T.size := by rw [← hT]; rfl
  have hTH := Lib.hid hT
  rw [hT] at hst ⊢
  clear hT
  go_enter Tryz.func104, Tryz.ntmps104
  go_wp2_with (first
    | (with_reducible show wpList _ _ _ (⟨some 6, .alloc 152, _, _, _, _⟩ :: _) _ _
       refine wpList_alloc_blk rfl 152 rfl _ zero_store ?_
       intro w3 g hG hgr hge
       have hb3 := below_none (Below.refl w.heap.size w) hgr (Nat.le_refl _))
    | (go_at_call 101; (with_reducible refine (hst.out _ (Nat.le_trans hB hb3.size) (hr.later hB hb3) (hr2.later hB hb3)).mono ?_); rintro e w4 ⟨rfl, hb4⟩
       have hG4 := hG.callee hb4
       replace hb4 := hb3.trans (hb4.mono hb3.size))
    | (with_reducible show wpList _ _ _ (⟨some 8, .alloc 152, _, _, _, _⟩ :: _) _ _
       refine wpList_alloc_blk rfl 152 rfl _ zero_store ?_
       intro w5 g8 hK hgr5 hge8
       have hb5 := below_none hb4 hgr5 hb4.size
       have hG5 := hG4.none_ hgr5
       have hgk : g8 ≠ g := by have := hG4.lt; omega)
    | (with_reducible show wpList _ _ _ (⟨_, .store 152 (.tmp 8) _, _, _, _, _⟩ :: _) _ _
       refine wpList_store_blk rfl 152 _ _ rfl g8 T rfl rfl 152 _ hK hT2 hT3 hT1 ?_
       intro w6 hK6 hgr6
       have hb6 := below_some hb5 hgr6 hb5.size (by have := hb4.size; omega)
       have hG6 := hG5.some_ hgr6 hgk.symm)
    | (go_at_call 141; (with_reducible refine (hwi.out _).mono ?_); rintro e wz ⟨rfl, hwz⟩; replace hwz := hwz.symm; subst hwz)
    | (with_reducible show wpList _ _ _ (⟨some 23, .load 152 (.tmp 8), _, _, _, _⟩ :: _) _ _
       refine wpList_load_blk rfl 152 _ rfl g8 rfl 152 T _ hK6 Tryz.underlying152 rfl hT2 ?_)
    | (with_reducible show wpList _ _ _ (⟨_, .store 152 (.tmp 6) _, _, _, _, _⟩ :: _) _ _
       refine wpList_store_blk rfl 152 _ _ rfl g T rfl rfl 152 _ hG6 hT2 hT3 hT1 ?_
       intro w7 hG7 hgr7
       have hb7 := below_some hb6 hgr7 hb6.size hge))
  exact bodyPost_ret (results_cell_tmp rfl _ _ g 152 _ (0, 0) _ rfl hG7 Tryz.underlying152 rfl hT2) rfl ⟨rfl, hb7⟩
end Pk
end Go.Proofs.YtbgakdpbglpfaaaGreatDoor
-- the text PkC
namespace Go.Proofs.YtbgakdpbglpfaaaGreatDoor
open Go.RowKit
namespace Pk
/-- the cells that the closure reads -/
structure CoC (w : World) (g6 g14 g10 g16 F N : Nat) (few : List Int) (r size j : Nat) : Prop where
  c6 : w.cell? ⟨g6, 0, none⟩ = some (.slice (some ⟨F, 0, none⟩) (N + 1) (N + 1))
  c14 : w.cell? ⟨g14, 0, none⟩ = some (.int .i64 (r : Int))
  c10 : w.cell? ⟨g10, 0, none⟩ = some (.int .i64 (size : Int))
  c16 : w.cell? ⟨g16, 0, none⟩ = some (.int .i64 (j : Int))
  cf : ∀ x, x ≤ N → w.cell? ⟨F, x, none⟩ = some (.int .i64 (few.getD x 0))
theorem CoC.drewN {w : World} {g6 g14 g10 g16 F N : Nat} {few : List Int} {r size j : Nat} (h : CoC w g6 g14 g10 g16 F N few r size j) (q : Nat) : CoC (w.drewN q) g6 g14 g10 g16 F N few r size j :=
  ⟨h.c6, h.c14, h.c10, h.c16, h.cf⟩
set_option maxRecDepth 100000 in
set_option maxHeartbeats 2000000 in
theorem cost_any (g6 g14 g10 g16 F N : Nat) (few : List Int) (r size j i x : Nat) (hN : N ≤ 1000) (hx : r + i * size = x) (hxN : x ≤ N) (hi : i ≤ 1000) (hj : j ≤ 1000) (z : Int) (hz : few.getD x 0 = z) (hz0 : 0 ≤ z) (hz1 : z ≤ 1001) (w : World) (h : CoC w g6 g14 g10 g16 F N few r size j) :
    Calls Tryz.prog 235 #[.int .i64 (i : Int), .pointer (some ⟨g6, 0, none⟩), .pointer (some ⟨g14, 0, none⟩), .pointer (some ⟨g10, 0, none⟩), .pointer (some ⟨g16, 0, none⟩)] w fun e w' => e = .returned (.int .i64 (z + j - i)) ∧ ∃ q, w' = w.drewN q := by
  obtain ⟨k6, k14, k10, k16, kf⟩ := h
  have kx := kf x hxN
  rw [hz] at kx
  obtain ⟨p, hp⟩ : ∃ p, i * size = p := ⟨_, rfl⟩
  have hpi : (i : Int) * size = p := by rw [← hp]; simp
  have hpx : (r : Int) + p = x := by rw [← hx, hp]; simp
  have hxi : (x : Int) < N + 1 := by omega
  clear hx kf hz
  go_enter Tryz.func235, Tryz.ntmps235
  go_wp2_with (fail)
  go_quiet (fail)
  go_wp2_with (fail)
  go_ret
  exact ⟨rfl, _, rfl⟩
end Pk
end Go.Proofs.YtbgakdpbglpfaaaGreatDoor
-- the text PkQ
namespace Go.Proofs.YtbgakdpbglpfaaaGreatDoor
namespace Pk
/-- what is filled of the rows: all remainders below r, and j numbers of remainder r -/
def Dn (few : List Int) (s mo N r j : Nat) (XL YL : List Int) : Prop := XL.length = N + 1 ∧ YL.length = N + 1 ∧
  ∀ x, x ≤ N → (x % s < r ∨ (x % s = r ∧ x / s < j)) → XL[x]? = some (fewT few s mo x) ∧ YL[x]? = some (manyT few s mo x : Int)
theorem Dn.start (few : List Int) (s mo N : Nat) : Dn few s mo N 0 0 (List.replicate (N + 1) 0) (List.replicate (N + 1) 0) :=
  ⟨by simp, by simp, fun x _ h => by rcases h with h | ⟨_, h⟩ <;> exact absurd h (Nat.not_lt_zero _)⟩
theorem of_num {s x r j : Nat} (h1 : x % s = r) (h2 : x / s = j) : x = r + j * s := by
  have := Nat.mod_add_div x s
  rw [h1, h2, Nat.mul_comm] at this
  omega
theorem Dn.step {few : List Int} {s mo N r j : Nat} {XL YL : List Int} (h : Dn few s mo N r j XL YL) {x : Nat} (hx : r + j * s = x) (hxN : x ≤ N) :
    Dn few s mo N r (j + 1) (XL.set x (fewT few s mo x)) (YL.set x (manyT few s mo x : Int)) := by
  obtain ⟨h1, h2, h3⟩ := h
  refine ⟨by simpa using h1, by simpa using h2, fun y hy hc => ?_⟩
  by_cases he : x = y
  · subst he
    rw [List.getElem?_set_self (by omega), List.getElem?_set_self (by omega)]
    exact ⟨rfl, rfl⟩
  · rw [List.getElem?_set_ne he, List.getElem?_set_ne he]
    refine h3 y hy ?_
    rcases hc with hc | ⟨h4, h5⟩
    · exact Or.inl hc
    · by_cases h6 : y / s = j
      · exact absurd (hx.symm.trans (of_num h4 h6).symm) he
      · exact Or.inr ⟨h4, by omega⟩
theorem Dn.next {few : List Int} {s mo N r j : Nat} {XL YL : List Int} (h : Dn few s mo N r j XL YL) (hj : N < r + j * s) : Dn few s mo N (r + 1) 0 XL YL := by
  obtain ⟨h1, h2, h3⟩ := h
  refine ⟨h1, h2, fun y hy hc => h3 y hy ?_⟩
  by_cases h4 : y % s = r
  · refine Or.inr ⟨h4, ?_⟩
    have e := of_num h4 (rfl : y / s = y / s)
    rcases Nat.lt_or_ge (y / s) j with h5 | h5
    · exact h5
    · have := Nat.mul_le_mul_right s h5
      omega
  · rcases hc with hc | ⟨_, hc⟩
    · exact Or.inl (by generalize y % s = q at *; omega)
    · exact absurd hc (Nat.not_lt_zero _)
theorem Dn.whole {few : List Int} {s mo N r : Nat} {XL YL : List Int} (h : Dn few s mo N r 0 XL YL) (hs : 1 ≤ s) (hr : min s (N + 1) ≤ r) : XL = stepF few s mo N ∧ YL = stepB few s mo N := by
  obtain ⟨h1, h2, h3⟩ := h
  have hk : ∀ x, x ≤ N → x % s < r := fun x hx => by
    have a := Nat.mod_lt x hs
    have b := Nat.mod_le x s
    generalize x % s = q at *
    omega
  refine ⟨List.ext_getElem? fun x => ?_, List.ext_getElem? fun x => ?_⟩
  · by_cases hx : x ≤ N
    · rw [stepF_at hx, (h3 x hx (Or.inl (hk x hx))).1]
    · rw [List.getElem?_eq_none (by omega), List.getElem?_eq_none (by simp [stepF]; omega)]
  · by_cases hx : x ≤ N
    · rw [stepB_at hx, (h3 x hx (Or.inl (hk x hx))).2]
    · rw [List.getElem?_eq_none (by omega), List.getElem?_eq_none (by simp [stepB]; omega)]
/-- what the rows of the fewest hold -/
theorem few_len (N : Nat) (l : List (Nat × Nat)) : (fewL N l).length = N + 1 := by
  cases l with
  | nil => simp [fewL]
  | cons p l => obtain ⟨s, m⟩ := p; simp [fewL, stepF]
theorem few_rng (N : Nat) (l : List (Nat × Nat)) : ∀ x, 0 ≤ (fewL N l).getD x 0 ∧ (fewL N l).getD x 0 ≤ 1001 := by
  induction l with
  | nil =>
    intro x
    rw [fewL, List.getD_eq_getElem?_getD]
    cases x with
    | zero => simp
    | succ x =>
      rw [List.getElem?_cons_succ, List.getElem?_replicate]
      split <;> simp
  | cons p l ih =>
    obtain ⟨s, m⟩ := p
    intro x
    rw [fewL, List.getD_eq_getElem?_getD]
    by_cases hx : x ≤ N
    · rw [stepF_at hx, Option.getD_some, fewT]
      have := ih (x - manyT (fewL N l) s m x * s)
      unfold costT
      omega
    · rw [List.getElem?_eq_none (by simp [stepF]; omega)]
      simp
theorem many_le (few : List Int) (s m x : Nat) : manyT few s m x ≤ m ∧ manyT few s m x * s ≤ x := by
  have h := bestT_le (costT few s x) (min m (x / s))
  unfold manyT
  refine ⟨by omega, ?_⟩
  have h2 : bestT (costT few s x) (min m (x / s)) ≤ x / s := by omega
  exact Nat.le_trans (Nat.mul_le_mul_right s h2) (Nat.div_mul_le_self x s)
/-- the window: what it holds ahead of number j -/
def Wn (few : List Int) (s mo r j : Nat) (W : List Nat) : Prop := match j with
  | 0 => W = []
  | j + 1 => Win (fun i => few.getD (r + i * s) 0 - i) (j - mo) j W
/-- while numbers at its end go -/
def Wp (few : List Int) (s mo r j : Nat) (W : List Nat) : Prop := match j with
  | 0 => W = []
  | j + 1 => W.Pairwise (fun a b => a < b ∧ few.getD (r + a * s) 0 - a < few.getD (r + b * s) 0 - b) ∧ (∀ x ∈ W, j - mo ≤ x ∧ x ≤ j) ∧
    ∀ i, j - mo ≤ i → i ≤ j → (∃ a' ∈ W, i ≤ a' ∧ few.getD (r + a' * s) 0 - a' ≤ few.getD (r + i * s) 0 - i) ∨ few.getD (r + (j + 1) * s) 0 - ((j + 1 : Nat) : Int) ≤ few.getD (r + i * s) 0 - i
theorem Wn.begin {few : List Int} {s mo r j : Nat} {W : List Nat} (h : Wn few s mo r j W) : Wp few s mo r j W := by
  cases j with
  | zero => exact h
  | succ j => exact ⟨h.asc, h.rng, fun i h1 h2 => Or.inl (h.dom i h1 h2)⟩
theorem Wp.pop {few : List Int} {s mo r j a : Nat} {W : List Nat} (h : Wp few s mo r j (W ++ [a])) (hc : few.getD (r + j * s) 0 - (j : Int) ≤ few.getD (r + a * s) 0 - (a : Int)) : Wp few s mo r j W := by
  cases j with
  | zero => exact absurd (show W ++ [a] = [] from h) (by simp)
  | succ j => exact Win.pop (c := fun i => few.getD (r + i * s) 0 - i) hc h
theorem Wp.lt {few : List Int} {s mo r j : Nat} {W : List Nat} (h : Wp few s mo r j W) : ∀ a ∈ W, a < j := by
  cases j with
  | zero => intro a ha; rw [show W = [] from h] at ha; cases ha
  | succ j => intro a ha; have := (h.2.1 a ha).2; omega
/-- the last one stays: so all stay -/
theorem Wp.stay {few : List Int} {s mo r j : Nat} {W : List Nat} (h : Wp few s mo r j W) (hl : W = [] ∨ ∃ V a, W = V ++ [a] ∧ few.getD (r + a * s) 0 - (a : Int) < few.getD (r + j * s) 0 - (j : Int)) :
    Win (fun i => few.getD (r + i * s) 0 - i) (j - 1 - mo) j (W ++ [j]) := by
  cases j with
  | zero =>
    rw [show W = [] from h]
    have := Win.one fun i => few.getD (r + i * s) 0 - (i : Int)
    rwa [show 0 - 1 - mo = 0 by omega]
  | succ j =>
    rw [Nat.add_sub_cancel]
    refine Win.push (c := fun i => few.getD (r + i * s) 0 - i) (fun a ha => ?_) (by omega) h
    rcases hl with rfl | ⟨V, b, rfl, hb⟩
    · cases ha
    · rcases List.mem_append.1 ha with ha | ha
      · have h1 := h.1
        rw [List.pairwise_append] at h1
        have := (h1.2.2 a ha b (by simp)).2
        show few.getD (r + a * s) 0 - (a : Int) < few.getD (r + (j + 1) * s) 0 - ((j + 1 : Nat) : Int)
        omega
      · have e : a = b := by simpa using ha
        rw [e]; exact hb
/-- the window slides -/
theorem win_slide {few : List Int} {s mo r j a : Nat} {W : List Nat} (h : Win (fun i => few.getD (r + i * s) 0 - i) (j - 1 - mo) j (a :: W)) (ha : (a : Int) < j - mo) : Win (fun i => few.getD (r + i * s) 0 - i) (j - mo) j W := by
  have h1 := (h.rng a (by simp)).1
  have h2 := h.slide (show a < (j - 1 - mo) + 1 by omega)
  rwa [show j - 1 - mo + 1 = j - mo by omega] at h2
theorem win_keep {few : List Int} {s mo r j a : Nat} {W : List Nat} (h : Win (fun i => few.getD (r + i * s) 0 - i) (j - 1 - mo) j (a :: W)) (ha : ¬ (a : Int) < j - mo) : Win (fun i => few.getD (r + i * s) 0 - i) (j - mo) j (a :: W) := by
  by_cases hz : j ≤ mo
  · rwa [show j - 1 - mo = j - mo by omega] at h
  · have h2 := h.keep (show (j - 1 - mo) + 1 ≤ a by omega)
    rwa [show j - 1 - mo + 1 = j - mo by omega] at h2
end Pk
end Go.Proofs.YtbgakdpbglpfaaaGreatDoor
-- the text PkE
namespace Go.Proofs.YtbgakdpbglpfaaaGreatDoor
open Go.RowKit
namespace Pk
open Bu (natI natI_at)
/-- the bodies of all loops, the outer ones first -/
def bodies : Code → List Code
  | .loop c => c :: bodies c
  | .seq a b => bodies a ++ bodies b
  | .block _ c => bodies c
  | .scope c => bodies c
  | .cond _ a b => bodies a ++ bodies b
  | _ => []
noncomputable def lp (k : Nat) : Code := (((Tryz.f233.body.map bodies).getD [])[k]?).getD .skip
/-- the closure's value -/
abbrev cl (g6 g14 g10 g16 : Nat) : Value := .func (.func 235) #[] #[.pointer (some ⟨g6, 0, none⟩), .pointer (some ⟨g14, 0, none⟩), .pointer (some ⟨g10, 0, none⟩), .pointer (some ⟨g16, 0, none⟩)]
def lenOf : Value → Nat
  | .slice _ n _ => n
  | _ => 0
theorem cell_lt {w : World} {p : Addr} {v : Value} (h : w.cell? p = some v) : p.block < w.heap.size := by
  rcases Nat.lt_or_ge p.block w.heap.size with h1 | h1
  · exact h1
  · unfold World.cell? at h
    rw [Array.getElem?_eq_none h1] at h
    cases h
theorem CoC.below {w w' : World} {g6 g14 g10 g16 F N : Nat} {few : List Int} {r size j : Nat} (h : CoC w g6 g14 g10 g16 F N few r size j) (hb : Below w.heap.size w w') : CoC w' g6 g14 g10 g16 F N few r size j := by
  have k : ∀ p : Addr, ∀ v, w.cell? p = some v → w'.cell? p = some v := fun p v hp => (hb.cell (cell_lt hp)).trans hp
  exact ⟨k _ _ h.c6, k _ _ h.c14, k _ _ h.c10, k _ _ h.c16, fun x hx => k _ _ (h.cf x hx)⟩
theorem RowI.callee {w w' : World} {base : Nat} {v : Value} {og : Option Nat} {l : List Int} (h : RowI w base v og l) (hb : Below w.heap.size w w') : RowI w' base v og l := h.same fun g hg => hb.block g (h.lt hg)
theorem nil_or_end (W : List Nat) : W = [] ∨ ∃ V a, W = V ++ [a] := by
  rcases W.eq_nil_or_concat with h | ⟨V, a, h⟩
  · exact Or.inl h
  · exact Or.inr ⟨V, a, by rw [h, List.concat_eq_append]⟩
set_option maxRecDepth 100000 in
set_option maxHeartbeats 400000 in
theorem loop5 (N g6 g14 g10 g16 F r s mo j xj base : Nat) (few : List Int) (og : Option Nat) (W0 : List Nat) (hN : N ≤ 1000) (hs : 1 ≤ s ∧ s ≤ 30) (hxj : r + j * s = xj) (hxN : xj ≤ N) (hf : ∀ x, 0 ≤ few.getD x 0 ∧ few.getD x 0 ≤ 1001)
    (v15 : Value) (s0 s2 s3 s4 s5 s7 s8 s9 s11 s12 s13 s18 s19 s20 s21 s22 s23 s24 s25 s26 s27 s28 s29 s30 s31 s32 s33 s34 s35 s36 s37 s38 s39 s40 s41 s42 s43 s44 s45 s46 s47 s48 s49 s50 s51 s52 s53 s54 s55 s56 s57 s58 s59 s60 s61 s62 s63 s64 s65 s66 s67 s68 s69 s70 s71 s72 s73 s74 s75 s76 s77 s78 s79 s80 s81 s82 s83 s84 s85 s86 s87 s88 s89 s90 s91 s92 s93 s94 s95 s96 s97 s98 s99 s100 s101 s102 s103 s104 s105 s106 s107 s108 s109 s110 s111 s112 s113 s114 s115 s116 s117 s118 s119 s120 s121 s122 s123 s124 s125 s126 s127 s128 s129 s130 s131 s132 s133 s134 s135 s136 s137 s138 s139 s140 s141 s142 s143 s144 s145 s146 s147 s148 s149 s150 s151 s152 s153 s154 s155 s156 s157 s158 s159 s160 s161 s162 s163 s164 s165 s166 s167 s168 s169 s170 s171 s172 s173 s174 s175 s176 s177 : Value) (Q0 : Exit → Act → World → Prop) (w : World)
    (hC : CoC w g6 g14 g10 g16 F N few r s j) (hW : RowI w base v15 og (natI W0)) (hP : Wp few s mo r j W0)
    (hexit : ∀ (v : Value) (W : List Nat) (u81 u82 u83 u84 u85 u86 u87 u88 u89 u90 u91 u92 u93 u94 u95 u96 u97 u98 u99 u100 u101 u102 : Value) (w' : World), RowI w' base v og (natI W) → Win (fun i => few.getD (r + i * s) 0 - i) (j - 1 - mo) j (W ++ [j]) → Below w.heap.size w w' → Q0 (.exit 8) ⟨(s0 :: (.int .i64 (N : Int)) :: s2 :: s3 :: s4 :: s5 :: (.pointer (some ⟨g6, 0, none⟩)) :: s7 :: s8 :: s9 :: (.pointer (some ⟨g10, 0, none⟩)) :: s11 :: s12 :: s13 :: (.pointer (some ⟨g14, 0, none⟩)) :: v :: (.pointer (some ⟨g16, 0, none⟩)) :: (cl g6 g14 g10 g16) :: s18 :: s19 :: s20 :: s21 :: s22 :: s23 :: s24 :: s25 :: s26 :: s27 :: s28 :: s29 :: s30 :: s31 :: s32 :: s33 :: s34 :: s35 :: s36 :: s37 :: s38 :: s39 :: s40 :: s41 :: s42 :: s43 :: s44 :: s45 :: s46 :: s47 :: s48 :: s49 :: s50 :: s51 :: s52 :: s53 :: s54 :: s55 :: s56 :: s57 :: s58 :: s59 :: s60 :: s61 :: s62 :: s63 :: s64 :: s65 :: s66 :: s67 :: s68 :: s69 :: s70 :: s71 :: s72 :: s73 :: s74 :: s75 :: s76 :: s77 :: s78 :: s79 :: s80 :: u81 :: u82 :: u83 :: u84 :: u85 :: u86 :: u87 :: u88 :: u89 :: u90 :: u91 :: u92 :: u93 :: u94 :: u95 :: u96 :: u97 :: u98 :: u99 :: u100 :: u101 :: u102 :: s103 :: s104 :: s105 :: s106 :: s107 :: s108 :: s109 :: s110 :: s111 :: s112 :: s113 :: s114 :: s115 :: s116 :: s117 :: s118 :: s119 :: s120 :: s121 :: s122 :: s123 :: s124 :: s125 :: s126 :: s127 :: s128 :: s129 :: s130 :: s131 :: s132 :: s133 :: s134 :: s135 :: s136 :: s137 :: s138 :: s139 :: s140 :: s141 :: s142 :: s143 :: s144 :: s145 :: s146 :: s147 :: s148 :: s149 :: s150 :: s151 :: s152 :: s153 :: s154 :: s155 :: s156 :: s157 :: s158 :: s159 :: s160 :: s161 :: s162 :: s163 :: s164 :: s165 :: s166 :: s167 :: s168 :: s169 :: s170 :: s171 :: s172 :: s173 :: s174 :: s175 :: s176 :: s177 :: []).toArray, []⟩ w') :
    Code.wp Tryz.prog (Code.loop (lp 4)) Q0 ⟨(s0 :: (.int .i64 (N : Int)) :: s2 :: s3 :: s4 :: s5 :: (.pointer (some ⟨g6, 0, none⟩)) :: s7 :: s8 :: s9 :: (.pointer (some ⟨g10, 0, none⟩)) :: s11 :: s12 :: s13 :: (.pointer (some ⟨g14, 0, none⟩)) :: v15 :: (.pointer (some ⟨g16, 0, none⟩)) :: (cl g6 g14 g10 g16) :: s18 :: s19 :: s20 :: s21 :: s22 :: s23 :: s24 :: s25 :: s26 :: s27 :: s28 :: s29 :: s30 :: s31 :: s32 :: s33 :: s34 :: s35 :: s36 :: s37 :: s38 :: s39 :: s40 :: s41 :: s42 :: s43 :: s44 :: s45 :: s46 :: s47 :: s48 :: s49 :: s50 :: s51 :: s52 :: s53 :: s54 :: s55 :: s56 :: s57 :: s58 :: s59 :: s60 :: s61 :: s62 :: s63 :: s64 :: s65 :: s66 :: s67 :: s68 :: s69 :: s70 :: s71 :: s72 :: s73 :: s74 :: s75 :: s76 :: s77 :: s78 :: s79 :: s80 :: s81 :: s82 :: s83 :: s84 :: s85 :: s86 :: s87 :: s88 :: s89 :: s90 :: s91 :: s92 :: s93 :: s94 :: s95 :: s96 :: s97 :: s98 :: s99 :: s100 :: s101 :: s102 :: s103 :: s104 :: s105 :: s106 :: s107 :: s108 :: s109 :: s110 :: s111 :: s112 :: s113 :: s114 :: s115 :: s116 :: s117 :: s118 :: s119 :: s120 :: s121 :: s122 :: s123 :: s124 :: s125 :: s126 :: s127 :: s128 :: s129 :: s130 :: s131 :: s132 :: s133 :: s134 :: s135 :: s136 :: s137 :: s138 :: s139 :: s140 :: s141 :: s142 :: s143 :: s144 :: s145 :: s146 :: s147 :: s148 :: s149 :: s150 :: s151 :: s152 :: s153 :: s154 :: s155 :: s156 :: s157 :: s158 :: s159 :: s160 :: s161 :: s162 :: s163 :: s164 :: s165 :: s166 :: s167 :: s168 :: s169 :: s170 :: s171 :: s172 :: s173 :: s174 :: s175 :: s176 :: s177 :: []).toArray, []⟩ w := by
  conv => arg 2; arg 1; whnf
  have hPH := Lib.hid hP
  have hfH := Lib.hid hf
  clear hP hf
  go_loopw [15] (fun v wr => ∃ W : List Nat, RowI wr base v og (natI W) ∧ Hid (Wp few s mo r j W) ∧ Below w.heap.size w wr) (fun v _ => lenOf v)
  case atStart => exact ⟨W0, hW, hPH, Below.refl _ _⟩
  case round =>
    clear hW hPH
    obtain ⟨W, hW, hPH, hb⟩ := hrel
    obtain ⟨wa, rfl⟩ : ∃ x, x = wr := ⟨wr, rfl⟩
    have hCa := hC.below hb
    obtain ⟨zj, hzj⟩ : ∃ z, few.getD xj 0 = z := ⟨_, rfl⟩
    have hfj := hfH.out xj
    rw [hzj] at hfj
    have hj : j ≤ 1000 := by
      have := Nat.mul_le_mul_left j hs.1
      omega
    have hc16 := hCa.c16
    rcases nil_or_end W with rfl | ⟨V, a, rfl⟩
    · have hW0 := hW
      obtain ⟨A, cap, hv, _⟩ := hW
      replace hW0 : RowI wa base (.slice A 0 cap) og (natI []) := by rw [hv] at hW0; exact hW0
      replace hv := hv.trans (show Value.slice A (natI []).length cap = .slice A 0 cap from rfl)
      subst hv
      have hgd : decide ((0 : Int) < 0) = false := rfl
      go_wp2_with (fail)
      go_quiet (fail)
      go_wp2_with (fail)
      exact hexit _ [] _ _ _ _ _ _ _ _ _ _ _ _ _ _ _ _ _ _ _ _ _ _ _ (RowI.callee hW0 (below_drewN (Below.refl _ _) _)) (hPH.out.stay (Or.inl rfl)) (below_drewN hb _)
    · have haj := hPH.out.lt a (by simp)
      obtain ⟨xa, hxa⟩ : ∃ x, r + a * s = x := ⟨_, rfl⟩
      have hxaN : xa ≤ N := by
        have := Nat.mul_le_mul_right s (Nat.le_of_lt haj)
        omega
      obtain ⟨za, hza⟩ : ∃ z, few.getD xa 0 = z := ⟨_, rfl⟩
      have hfa := hfH.out xa
      rw [hza] at hfa
      have e1 : natI (V ++ [a]) = natI V ++ [(a : Int)] := by simp [natI]
      have e2 : (natI V).length = V.length := by simp [natI]
      rw [e1] at hW
      have hbig : V.length + 1 ≤ maxLen := by
        obtain ⟨_, cp, _, h1, h2, _⟩ := hW
        rw [List.length_append, e2] at h1
        simp only [List.length_cons, List.length_nil] at h1
        omega
      simp only [maxLen] at hbig
      have hW0 := hW
      obtain ⟨g, off, cap, rfl, rfl, hcap, hcell, hW2⟩ := hW.pop
      rw [e2] at hW0
      have cA := Lib.hid (fun q => cost_any g6 g14 g10 g16 F N few r s j a xa hN hxa hxaN (by omega) hj za hza hfa.1 hfa.2 (wa.drewN q) (hCa.drewN q))
      have cJ := Lib.hid (fun q => cost_any g6 g14 g10 g16 F N few r s j j xj hN hxj hxN hj hj zj hzj hfj.1 hfj.2 (wa.drewN q) (hCa.drewN q))
      rw [e2] at hcell hcap hW2
      rw [e2]
      obtain ⟨q, hq⟩ : ∃ q, V.length = q := ⟨_, rfl⟩
      obtain ⟨q1, hq1⟩ : ∃ q1, q + 1 = q1 := ⟨_, rfl⟩
      rw [hq] at hcell hcap hW2 hW0 ⊢
      rw [hq1] at hcap hW0 ⊢
      have hgd : decide ((0 : Int) < (q1 : Int)) = true := decide_eq_true (by omega)
      have hgn : decide (0 < q1) = true := decide_eq_true (by omega)
      have hi1 : (q1 : Int) - 1 = (q : Nat) := by omega
      have hi2 : (q : Int) < (q1 : Int) := by omega
      have hadd : (⟨g, off, none⟩ : Addr).add q = ⟨g, off + q, none⟩ := by unfold Addr.add; split <;> simp_all
      have hw1 : IntKind.i64.wrap ((q1 : Int) - 1) = (q : Int) := by rw [IntKind.wrap_i64]; omega
      have hw2 : IntKind.i64.wrap (q : Int) = (q : Int) := by rw [IntKind.wrap_i64]; omega
      clear hq1
      by_cases hc : zj - (j : Int) ≤ za - a
      · have hcm : zj ≤ za + j - a := by omega
        go_wp2_with (fail)
        go_quiet (first
          | (with_reducible exact Calls.quiet_of (cA.out _))
          | (with_reducible exact Calls.quiet_of (cJ.out _)))
        go_wp2_with (fail)
        exact ⟨⟨V, RowI.callee hW2 (below_drewN (Below.refl _ _) _), Lib.hid (hPH.out.pop (by rw [hxj, hzj, hxa, hza]; exact hc)), below_drewN hb _⟩, by simp only [lenOf]; omega⟩
      · have hcm : ¬ zj ≤ za + j - a := by omega
        go_wp2_with (fail)
        go_quiet (first
          | (with_reducible exact Calls.quiet_of (cA.out _))
          | (with_reducible exact Calls.quiet_of (cJ.out _)))
        go_wp2_with (fail)
        exact hexit _ (V ++ [a]) _ _ _ _ _ _ _ _ _ _ _ _ _ _ _ _ _ _ _ _ _ _ _ (by rw [e1]; exact RowI.callee hW0 (below_drewN (Below.refl _ _) _)) (hPH.out.stay (Or.inr ⟨V, a, rfl, by rw [hxj, hzj, hxa, hza]; omega⟩)) (below_drewN hb _)
end Pk
end Go.Proofs.YtbgakdpbglpfaaaGreatDoor
-- the text PkF
namespace Go.Proofs.YtbgakdpbglpfaaaGreatDoor
open Go.RowKit
namespace Pk
open Bu (natI natI_at)
theorem asc_len : ∀ (j : Nat) (W : List Nat), W.Pairwise (fun a b => a < b) → (∀ x ∈ W, x < j) → W.length ≤ j := by
  intro j
  induction j with
  | zero =>
    intro W _ h
    cases W with
    | nil => exact Nat.le_refl _
    | cons a W => exact absurd (h a (by simp)) (Nat.not_lt_zero _)
  | succ j ih =>
    intro W hp h
    rcases nil_or_end W with rfl | ⟨V, a, rfl⟩
    · exact Nat.zero_le _
    · rw [List.pairwise_append] at hp
      have h1 := ih V hp.1 fun x hx => by
        have := hp.2.2 x hx a (by simp)
        have := h a (by simp)
        omega
      rw [List.length_append, List.length_singleton]
      omega
theorem win_len {c : Nat → Int} {lo j : Nat} {W : List Nat} (h : Win c lo j W) : W.length ≤ j + 1 :=
  asc_len (j + 1) W (h.asc.imp fun h => h.1) fun x hx => by have := (h.rng x hx).2; omega
def jOf (w : World) : Value → Nat
  | .pointer (some a) => match w.cell? a with
    | some v => (intOf v).toNat
    | none => 0
  | _ => 0
/-- what stands in the loop over the numbers of one remainder -/
structure L4 (w0 : World) (g6 g14 g10 F X Y N : Nat) (few : List Int) (r s : Nat) : Prop where
  c6 : w0.cell? ⟨g6, 0, none⟩ = some (.slice (some ⟨F, 0, none⟩) (N + 1) (N + 1))
  c14 : w0.cell? ⟨g14, 0, none⟩ = some (.int .i64 (r : Int))
  c10 : w0.cell? ⟨g10, 0, none⟩ = some (.int .i64 (s : Int))
  cf : ∀ x, x ≤ N → w0.cell? ⟨F, x, none⟩ = some (.int .i64 (few.getD x 0))
  n6 : g6 ≠ X ∧ g6 ≠ Y
  n14 : g14 ≠ X ∧ g14 ≠ Y
  n10 : g10 ≠ X ∧ g10 ≠ Y
  nf : F ≠ X ∧ F ≠ Y
  xy : X ≠ Y
  xl : X < w0.heap.size
  yl : Y < w0.heap.size
theorem Fr.cell {S : Nat → Prop} {w w' : World} (h : Fr S w w') {p : Addr} {v : Value} (hp : w.cell? p = some v) (hS : ¬ S p.block) : w'.cell? p = some v :=
  (World.cell?_of_block (h.block p.block (cell_lt hp) hS)).trans hp
theorem L4.coc {w0 w : World} {g6 g14 g10 g16 F X Y N : Nat} {few : List Int} {r s j : Nat} (h : L4 w0 g6 g14 g10 F X Y N few r s) (hF : Fr (fun i => i = X ∨ i = Y) w0 w) (hj : w.cell? ⟨g16, 0, none⟩ = some (.int .i64 (j : Int))) : CoC w g6 g14 g10 g16 F N few r s j :=
  ⟨Fr.cell hF h.c6 (by have := h.n6; show ¬ (g6 = X ∨ g6 = Y); omega), Fr.cell hF h.c14 (by have := h.n14; show ¬ (g14 = X ∨ g14 = Y); omega), Fr.cell hF h.c10 (by have := h.n10; show ¬ (g10 = X ∨ g10 = Y); omega), hj,
   fun x hx => Fr.cell hF (h.cf x hx) (by have := h.nf; show ¬ (F = X ∨ F = Y); omega)⟩
theorem Fr.belowR {S : Nat → Prop} {a w w' : World} (h : Fr S a w) (hb : Below w.heap.size w w') : Fr S a w' :=
  ⟨hb.os.trans h.os, hb.tape.trans h.tape, hb.output.trans h.output, Nat.le_trans h.size hb.size, fun i hi hn => (hb.block i (Nat.lt_of_lt_of_le hi h.size)).trans (h.block i hi hn)⟩
/-- what a cell holds, whatever it is -/
def valAt (w : World) (g o : Nat) : Value := (w.cell? ⟨g, o, none⟩).getD undef
theorem valAt_some {w : World} {g o : Nat} {v : Value} (h : w.cell? ⟨g, o, none⟩ = some v) : w.cell? ⟨g, o, none⟩ = some (valAt w g o) := by
  unfold valAt
  rw [h]; rfl
@[reducible] def S28 (g16 j g7 off b X Y x : Nat) (w' : World) : Prop := w'.cell? ⟨g16, 0, none⟩ = some (.int .i64 (j : Int)) ∧ w'.cell? ⟨g7, off, none⟩ = some (.int .i64 (b : Int)) ∧ w'.cell? ⟨X, x, none⟩ = some (valAt w' X x) ∧ w'.frozen? ⟨X, x, none⟩ = false ∧ w'.cell? ⟨Y, x, none⟩ = some (valAt w' Y x) ∧ w'.frozen? ⟨Y, x, none⟩ = false
theorem S28.make {w : World} {g16 j g7 off b X Y x : Nat} {XL YL : List Int} (hj : Blk w g16 3 #[.int .i64 (j : Int)]) (hb : w.cell? ⟨g7, off, none⟩ = some (.int .i64 (b : Int))) (hX : Blk w X 3 (intArr XL)) (hY : Blk w Y 3 (intArr YL))
    (hx : x < XL.length) (hy : x < YL.length) : S28 g16 j g7 off b X Y x w.drew := by
  have k : ∀ {Z : Nat} {ZL : List Int}, Blk w Z 3 (intArr ZL) → x < ZL.length → ∃ v, w.cell? ⟨Z, x, none⟩ = some v := fun h hl => ⟨.int .i64 (_ : Int), by rw [h.cell, intArr_at, List.getElem?_eq_getElem hl]; rfl⟩
  obtain ⟨v, hv⟩ := k hX hx
  obtain ⟨u, hu⟩ := k hY hy
  exact ⟨hj.cell 0, hb, valAt_some (w := w.drew) hv, hX.frozen x, valAt_some (w := w.drew) hu, hY.frozen x⟩
theorem S28.drewN {w : World} {g16 j g7 off b X Y x : Nat} (h : S28 g16 j g7 off b X Y x w) (q : Nat) : S28 g16 j g7 off b X Y x (w.drewN q) := h
theorem S28.set {w : World} {g16 j g7 off b X Y x Z : Nat} (h : S28 g16 j g7 off b X Y x w) (h1 : Z ≠ g16) (h2 : Z ≠ g7) (v : Value) : S28 g16 j g7 off b X Y x (w.setCell ⟨Z, x, none⟩ v) := by
  obtain ⟨k1, k2, k3, k4, k5, k6⟩ := h
  have c : ∀ U : Nat, w.cell? ⟨U, x, none⟩ = some (valAt w U x) → ∃ u, (w.setCell ⟨Z, x, none⟩ v).cell? ⟨U, x, none⟩ = some u := fun U hU => by
    by_cases e : (⟨Z, x, none⟩ : Addr) = ⟨U, x, none⟩
    · rw [e]
      exact ⟨_, World.cell?_setCell_same _ _ _ hU⟩
    · rw [World.cell?_setCell_other _ _ _ _ e]
      exact ⟨_, hU⟩
  obtain ⟨u, hu⟩ := c X k3
  obtain ⟨u', hu'⟩ := c Y k5
  refine ⟨?_, ?_, valAt_some hu, by rw [World.frozen?_setCell]; exact k4, valAt_some hu', by rw [World.frozen?_setCell]; exact k6⟩
  · rw [World.cell?_setCell_other _ _ _ _ (by simp)]; exact k1
  · rw [World.cell?_setCell_other _ _ _ _ (by simp)]; exact k2
theorem Fr.setC {S : Nat → Prop} {a w : World} (h : Fr S a w) {p : Addr} (hp : S p.block) (v : Value) : Fr S a (w.setCell p v) :=
  ⟨h.os, h.tape, h.output, by simpa using h.size, fun i hi hn => (Below.heap_setCell w p v i fun e => hn (by rw [e]; exact hp)).trans (h.block i hi hn)⟩
theorem RowI.set2 {w : World} {base g : Nat} {v : Value} {l : List Int} (h : RowI w base v (some g) l) {X Y : Nat} (hX : X ≠ g) (hY : Y ≠ g) (i k : Nat) (u u' : Value) : RowI ((w.setCell ⟨X, i, none⟩ u).setCell ⟨Y, k, none⟩ u') base v (some g) l :=
  h.same fun g' hg' => by
    injection hg' with e
    subst e
    rw [Below.heap_setCell _ _ _ _ (Ne.symm hY), Below.heap_setCell _ _ _ _ (Ne.symm hX)]
set_option maxRecDepth 100000 in
set_option maxHeartbeats 1000000 in
theorem loop4 (N g6 g14 g10 F X Y r s mo : Nat) (few XL0 YL0 : List Int) (g16 : Nat) (hN : N ≤ 1000) (hs : 1 ≤ s ∧ s ≤ 30) (hmo : mo ≤ 40) (hrs : r < s) (hf : ∀ x, 0 ≤ few.getD x 0 ∧ few.getD x 0 ≤ 1001)
    (v15 v16 : Value) (s0 s2 s3 s4 s5 s7 s8 s9 s17 s18 s19 s20 s21 s22 s23 s24 s25 s26 s27 s28 s29 s30 s31 s32 s33 s34 s35 s36 s37 s38 s39 s40 s41 s42 s43 s44 s45 s46 s47 s48 s49 s50 s51 s52 s53 s54 s55 s56 s57 s58 s59 s60 s61 s62 s63 s64 s65 s66 s67 s68 s69 s70 s71 s72 s73 s74 s75 s76 s77 s78 s79 s80 s81 s82 s83 s84 s85 s86 s87 s88 s89 s90 s91 s92 s93 s94 s95 s96 s97 s98 s99 s100 s101 s102 s103 s104 s105 s106 s107 s108 s109 s110 s111 s112 s113 s114 s115 s116 s117 s118 s119 s120 s121 s122 s123 s124 s125 s126 s127 s128 s129 s130 s131 s132 s133 s134 s135 s136 s137 s138 s139 s140 s141 s142 s143 s144 s145 s146 s147 s148 s149 s150 s151 s152 s153 s154 s155 s156 s157 s158 s159 s160 s161 s162 s163 s164 s165 s166 s167 s168 s169 s170 s171 s172 s173 s174 s175 s176 s177 : Value) (Q0 : Exit → Act → World → Prop) (w0 w : World) (hL : L4 w0 g6 g14 g10 F X Y N few r s)
    (h15 : v15 = .slice none 0 0) (h16 : v16 = .pointer (some ⟨g16, 0, none⟩)) (hj : Blk w g16 3 #[.int .i64 0]) (hg : w0.heap.size ≤ g16) (hD : Dn few s mo N r 0 XL0 YL0) (hX : Blk w X 3 (intArr XL0)) (hY : Blk w Y 3 (intArr YL0)) (hF : Fr (fun i => i = X ∨ i = Y) w0 w)
    (hexit : ∀ (v q : Value) (XL YL : List Int) (u17 u18 u71 u72 u73 u74 u75 u76 u77 u78 u79 u80 u81 u82 u83 u84 u85 u86 u87 u88 u89 u90 u91 u92 u93 u94 u95 u96 u97 u98 u99 u100 u101 u102 u103 u104 u105 u106 u107 u108 u109 u110 u111 u112 u113 u114 u115 u116 u117 u118 u119 u120 u121 u122 u123 u124 u125 u126 u127 u128 u129 u130 u131 u132 u133 u134 u135 u136 u137 u138 : Value) (w' : World), Dn few s mo N (r + 1) 0 XL YL → Blk w' X 3 (intArr XL) → Blk w' Y 3 (intArr YL) → Fr (fun i => i = X ∨ i = Y) w0 w' → Q0 (.exit 6) ⟨(s0 :: (.int .i64 (N : Int)) :: s2 :: s3 :: s4 :: s5 :: (.pointer (some ⟨g6, 0, none⟩)) :: s7 :: s8 :: s9 :: (.pointer (some ⟨g10, 0, none⟩)) :: (.int .i64 (mo : Int)) :: (.slice (some ⟨X, 0, none⟩) (N + 1) (N + 1)) :: (.slice (some ⟨Y, 0, none⟩) (N + 1) (N + 1)) :: (.pointer (some ⟨g14, 0, none⟩)) :: v :: q :: u17 :: u18 :: s19 :: s20 :: s21 :: s22 :: s23 :: s24 :: s25 :: s26 :: s27 :: s28 :: s29 :: s30 :: s31 :: s32 :: s33 :: s34 :: s35 :: s36 :: s37 :: s38 :: s39 :: s40 :: s41 :: s42 :: s43 :: s44 :: s45 :: s46 :: s47 :: s48 :: s49 :: s50 :: s51 :: s52 :: s53 :: s54 :: s55 :: s56 :: s57 :: s58 :: s59 :: s60 :: s61 :: s62 :: s63 :: s64 :: s65 :: s66 :: s67 :: s68 :: s69 :: s70 :: u71 :: u72 :: u73 :: u74 :: u75 :: u76 :: u77 :: u78 :: u79 :: u80 :: u81 :: u82 :: u83 :: u84 :: u85 :: u86 :: u87 :: u88 :: u89 :: u90 :: u91 :: u92 :: u93 :: u94 :: u95 :: u96 :: u97 :: u98 :: u99 :: u100 :: u101 :: u102 :: u103 :: u104 :: u105 :: u106 :: u107 :: u108 :: u109 :: u110 :: u111 :: u112 :: u113 :: u114 :: u115 :: u116 :: u117 :: u118 :: u119 :: u120 :: u121 :: u122 :: u123 :: u124 :: u125 :: u126 :: u127 :: u128 :: u129 :: u130 :: u131 :: u132 :: u133 :: u134 :: u135 :: u136 :: u137 :: u138 :: s139 :: s140 :: s141 :: s142 :: s143 :: s144 :: s145 :: s146 :: s147 :: s148 :: s149 :: s150 :: s151 :: s152 :: s153 :: s154 :: s155 :: s156 :: s157 :: s158 :: s159 :: s160 :: s161 :: s162 :: s163 :: s164 :: s165 :: s166 :: s167 :: s168 :: s169 :: s170 :: s171 :: s172 :: s173 :: s174 :: s175 :: s176 :: s177 :: []).toArray, []⟩ w') :
    Code.wp Tryz.prog (Code.loop (lp 3)) Q0 ⟨(s0 :: (.int .i64 (N : Int)) :: s2 :: s3 :: s4 :: s5 :: (.pointer (some ⟨g6, 0, none⟩)) :: s7 :: s8 :: s9 :: (.pointer (some ⟨g10, 0, none⟩)) :: (.int .i64 (mo : Int)) :: (.slice (some ⟨X, 0, none⟩) (N + 1) (N + 1)) :: (.slice (some ⟨Y, 0, none⟩) (N + 1) (N + 1)) :: (.pointer (some ⟨g14, 0, none⟩)) :: v15 :: v16 :: s17 :: s18 :: s19 :: s20 :: s21 :: s22 :: s23 :: s24 :: s25 :: s26 :: s27 :: s28 :: s29 :: s30 :: s31 :: s32 :: s33 :: s34 :: s35 :: s36 :: s37 :: s38 :: s39 :: s40 :: s41 :: s42 :: s43 :: s44 :: s45 :: s46 :: s47 :: s48 :: s49 :: s50 :: s51 :: s52 :: s53 :: s54 :: s55 :: s56 :: s57 :: s58 :: s59 :: s60 :: s61 :: s62 :: s63 :: s64 :: s65 :: s66 :: s67 :: s68 :: s69 :: s70 :: s71 :: s72 :: s73 :: s74 :: s75 :: s76 :: s77 :: s78 :: s79 :: s80 :: s81 :: s82 :: s83 :: s84 :: s85 :: s86 :: s87 :: s88 :: s89 :: s90 :: s91 :: s92 :: s93 :: s94 :: s95 :: s96 :: s97 :: s98 :: s99 :: s100 :: s101 :: s102 :: s103 :: s104 :: s105 :: s106 :: s107 :: s108 :: s109 :: s110 :: s111 :: s112 :: s113 :: s114 :: s115 :: s116 :: s117 :: s118 :: s119 :: s120 :: s121 :: s122 :: s123 :: s124 :: s125 :: s126 :: s127 :: s128 :: s129 :: s130 :: s131 :: s132 :: s133 :: s134 :: s135 :: s136 :: s137 :: s138 :: s139 :: s140 :: s141 :: s142 :: s143 :: s144 :: s145 :: s146 :: s147 :: s148 :: s149 :: s150 :: s151 :: s152 :: s153 :: s154 :: s155 :: s156 :: s157 :: s158 :: s159 :: s160 :: s161 :: s162 :: s163 :: s164 :: s165 :: s166 :: s167 :: s168 :: s169 :: s170 :: s171 :: s172 :: s173 :: s174 :: s175 :: s176 :: s177 :: []).toArray, []⟩ w := by
  conv => arg 2; arg 1; whnf
  have hDH := Lib.hid hD
  have hfH := Lib.hid hf
  clear hD hf
  go_loopw [15, 16] (fun v q wr => ∃ (j g16 : Nat) (og : Option Nat) (W : List Nat) (XL YL : List Int), q = .pointer (some ⟨g16, 0, none⟩) ∧ Blk wr g16 3 #[.int .i64 (j : Int)] ∧ w0.heap.size ≤ g16 ∧ RowI wr w0.heap.size v og (natI W) ∧ og ≠ some g16 ∧ Hid (Wn few s mo r j W) ∧ Hid (Dn few s mo N r j XL YL) ∧ j ≤ N + 1 ∧ Blk wr X 3 (intArr XL) ∧ Blk wr Y 3 (intArr YL) ∧ Fr (fun i => i = X ∨ i = Y) w0 wr) (fun _ q wr => N + 2 - jOf wr q)
  case atStart => exact ⟨0, g16, none, [], XL0, YL0, h16, hj, hg, by rw [h15]; exact RowI.nil _ _, by simp, Lib.hid rfl, hDH, by omega, hX, hY, hF⟩
  case round =>
    clear hDH hX hY hF hj hg h15 h16
    obtain ⟨j, g16, og, W, XL, YL, rfl, hj, hg16, hW, hog, hWn, hDH, hjN, hX, hY, hF⟩ := hrel
    obtain ⟨wb, rfl⟩ : ∃ x, x = wr := ⟨wr, rfl⟩
    have hcj : wb.cell? ⟨g16, 0, none⟩ = some (.int .i64 (j : Int)) := hj.cell 0
    have hjO := Lib.hid (show jOf wb (.pointer (some ⟨g16, 0, none⟩)) = j by
      unfold jOf
      simp only [hcj]
      show ((j : Int)).toNat = j
      omega)
    have hC := hL.coc hF hcj
    have hc14 := hC.c14
    have hc10 := hC.c10
    obtain ⟨p, hp⟩ : ∃ p, j * s = p := ⟨_, rfl⟩
    obtain ⟨x, hx⟩ : ∃ x, r + p = x := ⟨_, rfl⟩
    have hpi : (j : Int) * (s : Int) = p := by rw [← hp]; simp
    have hxi : (r : Int) + p = x := by omega
    have hpB : p ≤ 40000 := by
      have h1 := Nat.mul_le_mul hjN hs.2
      omega
    by_cases hle : x ≤ N
    · have hlei : (x : Int) ≤ N := by omega
      have hxj := Lib.hid (show r + j * s = x by rw [hp]; exact hx)
      clear hp hx
      go_wp2_with (fail)
      refine loop5 N g6 g14 g10 g16 F r s mo j x w0.heap.size few og W hN hs hxj.out hle hfH.out _ _ _ _ _ _ _ _ _ _ _ _ _ _ _ _ _ _ _ _ _ _ _ _ _ _ _ _ _ _ _ _ _ _ _ _ _ _ _ _ _ _ _ _ _ _ _ _ _ _ _ _ _ _ _ _ _ _ _ _ _ _ _ _ _ _ _ _ _ _ _ _ _ _ _ _ _ _ _ _ _ _ _ _ _ _ _ _ _ _ _ _ _ _ _ _ _ _ _ _ _ _ _ _ _ _ _ _ _ _ _ _ _ _ _ _ _ _ _ _ _ _ _ _ _ _ _ _ _ _ _ _ _ _ _ _ _ _ _ _ _ _ _ _ _ _ _ _ _ _ _ _ _ _ _ _ _ _ _ _ _ _ _ _ _ _ _ _ _ _ _ _ _ _ hC hW hWn.out.begin ?_
      intro v5 W5 t81 t82 t83 t84 t85 t86 t87 t88 t89 t90 t91 t92 t93 t94 t95 t96 t97 t98 t99 t100 t101 t102 w5 hW5 hwin hb5
      have hX5 := hX.callee hb5
      have hY5 := hY.callee hb5
      have hj5 := hj.callee hb5
      have hC5 := hC.below hb5
      have hc165 := hC5.c16
      have hlen5 : (natI W5).length ≤ 1000000 := by
        have h1 := win_len hwin
        rw [List.length_append, List.length_singleton] at h1
        simp only [natI, List.length_map]
        omega
      have hsz5 : w0.heap.size ≤ w5.heap.size := Nat.le_trans hF.size hb5.size
      clear hW hX hY hj hcj hC hc14 hc10
      go_wp2_with (first
        | (at_builtin
           refine wpList_pushR rfl _ _ rfl rfl (hW5.none_ (World.grownBy_alloc w5 (.cells #[.int .i64 (j : Int)] 3) none)) (by show _ ≤ (w5.heap.push _).size; simp; omega) w5.heap.size 1 (j : Int) rfl ((Blk.new w5 _ _).cell 0) hlen5 ?_
           intro v6 g7 w6 hW6 hat6 hfr6))
      have hst : ∀ i, i < w5.heap.size → og ≠ some i → w6.heap[i]? = w5.heap[i]? := fun i hi hne => by
        have hi2 : i < (w5.alloc (.cells #[.int .i64 (j : Int)] 3)).heap.size := by show _ < (w5.heap.push _).size; simp; omega
        rw [hfr6.block i hi2 hne, Below.heap_alloc w5 _ i hi]
      have hog6 : og ≠ some g16 := hog
      have hogX : ∀ i, i < w0.heap.size → og ≠ some i := fun i hi e => by
        have := hW5.ge e
        omega
      have hX6 : Blk w6 X 3 (intArr XL) := (hst X hX5.lt (hogX X hL.xl)).trans hX5
      have hY6 : Blk w6 Y 3 (intArr YL) := (hst Y hY5.lt (hogX Y hL.yl)).trans hY5
      have hj6 : Blk w6 g16 3 #[.int .i64 (j : Int)] := (hst g16 hj5.lt hog6).trans hj5
      have hF6 : Fr (fun i => i = X ∨ i = Y) w0 w6 :=
        ⟨hfr6.os.trans (hb5.os.trans hF.os), hfr6.tape.trans (hb5.tape.trans hF.tape), hfr6.output.trans (hb5.output.trans hF.output),
          Nat.le_trans hsz5 (Nat.le_trans (by show _ ≤ (w5.heap.push _).size; simp) hfr6.size), fun i hi hn => by
            rw [hst i (by omega) (hogX i hi), hb5.block i (Nat.lt_of_lt_of_le hi hF.size), hF.block i hi hn]⟩
      have hg7 : some g7 ≠ some g16 := by
        rintro e
        injection e with e
        subst e
        rcases hat6 with h | h
        · exact hog6 h
        · have := hj5.lt
          have h2 : (w5.alloc (.cells #[.int .i64 (j : Int)] 3)).heap.size = w5.heap.size + 1 := by show (w5.heap.push _).size = _; simp
          omega
      have e7 : natI W5 ++ [(j : Int)] = natI (W5 ++ [j]) := by simp [natI]
      rw [e7] at hW6
      clear hst hat6 hfr6 hlen5 hX5 hY5 hj5 hb5 hC5 hc165 hW5 hF hsz5 hogX hog hog6
      generalize W5 ++ [j] = W6 at *
      obtain ⟨a, W7, rfl⟩ := hwin.ne (by omega)
      have hcj6 := hj6.cell 0
      have hcL := hL.coc hF6 hcj6
      have hra := hwin.rng a (by simp)
      have hjN2 : j ≤ N := by
        have h1 := Nat.mul_le_mul_left j hs.1
        have h2 := hxj.out
        omega
      have hjN : j ≤ 1000 := by
        have h1 := Nat.mul_le_mul_left j hs.1
        have h2 := hxj.out
        omega
      have e8 : natI (a :: W7) = (a : Int) :: natI W7 := by simp [natI]
      rw [e8] at hW6
      obtain ⟨g7', off, cap, e1, rfl, hcap, hca, _, _⟩ := hW6.cut
      injection e1 with e1
      subst e1
      obtain ⟨lW, hlW⟩ : ∃ n, (natI W7).length = n := ⟨_, rfl⟩
      rw [hlW] at hcap hW6 ⊢
      obtain ⟨n1, hn1⟩ : ∃ n, lW + 1 = n := ⟨_, rfl⟩
      rw [hn1] at hcap hW6 ⊢
      have hi0 : (0 : Int) < (n1 : Int) := by omega
      have hadd0 : (⟨g7, off, none⟩ : Addr).add 0 = ⟨g7, off, none⟩ := by unfold Addr.add; split <;> simp_all
      obtain ⟨d, hd⟩ : ∃ d : Int, (j : Int) - mo = d := ⟨_, rfl⟩
      have hdw : Value.int .i64 (IntKind.i64.wrap d) = Value.int .i64 d := by congr 1; rw [IntKind.wrap_i64]; omega
      have hWH := Lib.hid hwin
      clear hwin
      go_wp2_with (fail)
      go_quiet (fail)
      have hbq : Below w6.heap.size w6 (w6.drewN nq) := below_drewN (Below.refl _ _) nq
      have hX8 := hX6.callee hbq
      have hY8 := hY6.callee hbq
      have hj8 := hj6.callee hbq
      have hF8 := Fr.belowR hF6 hbq
      have hW8 := RowI.callee hW6 hbq
      clear hX6 hY6 hj6 hF6 hW6 hcj6 hcL hca hbq
      generalize w6.drewN nq = w8 at *
      go_upto_if 113 with (fail)
      go_cut [15] from 114 to 115 (fun v wx => ∃ (a2 : Nat) (W8 : List Nat), RowI w8 w0.heap.size v (some g7) (natI (a2 :: W8)) ∧ Hid (Win (fun i => few.getD (r + i * s) 0 - i) (j - mo) j (a2 :: W8)) ∧ wx = w8)
      case first =>
        by_cases hlt : (a : Int) < d
        · have hsl := win_slide hWH.out (by omega)
          obtain ⟨a2, W8, rfl⟩ := hsl.ne (Nat.sub_le _ _)
          have hlen7 : (natI (a2 :: W8)).length = W8.length + 1 := by simp [natI]
          have hcap1 : ¬ cap = 1 := by omega
          have hnl : (natI (a2 :: W8)).length = n1 - 1 := by omega
          have htl := (RowI.tail hW8).2
          rw [if_neg hcap1, hnl] at htl
          clear hlen7 hnl
          have hslH := Lib.hid hsl
          clear hsl
          go_wp2_with (fail)
          go_meet
          exact ⟨a2, W8, htl, hslH, rfl⟩
        · go_wp2_with (fail)
          go_meet
          exact ⟨a, W7, by rw [e8]; exact hW8, Lib.hid (win_keep hWH.out (by omega)), rfl⟩
      case rest =>
        clear hW8 hWH
        obtain ⟨b, W9, hW8, hWH, rfl⟩ := hcut
        have hcj8 : wc.cell? ⟨g16, 0, none⟩ = some (.int .i64 (j : Int)) := hj8.cell 0
        have hC8 := hL.coc hF8 hcj8
        have hc14 := hC8.c14
        have hc10 := hC8.c10
        go_wp2_with (fail)
        have hrb := hWH.out.rng b (by simp)
        obtain ⟨xb, hxb⟩ : ∃ n, r + b * s = n := ⟨_, rfl⟩
        have hxbN : xb ≤ N := by
          have h1 := Nat.mul_le_mul_right s hrb.2
          have h2 := hxj.out
          omega
        obtain ⟨z, hz⟩ : ∃ z, few.getD xb 0 = z := ⟨_, rfl⟩
        have hzr := hfH.out xb
        rw [hz] at hzr
        obtain ⟨m, hm⟩ : ∃ m, manyT few s mo x = m := ⟨_, rfl⟩
        obtain ⟨fx, hfx⟩ : ∃ f, fewT few s mo x = f := ⟨_, rfl⟩
        have hmany := win_many hrs hWH.out
        rw [hxj.out, hm, hxb, hz] at hmany
        have hmv : (j : Int) - b = m := by omega
        have hmn : min (1001 : Int) (z + j - b) = fx := by
          rw [← hfx, fewT, hm, ← hmany.1, hmany.2]
        have hD9 := Lib.hid (hDH.out.step hxj.out hle)
        rw [hm, hfx] at hD9
        have e9 : natI (b :: W9) = (b : Int) :: natI W9 := by simp [natI]
        rw [e9] at hW8
        obtain ⟨g7', off8, cap8, e1, rfl, hcap8, hcb, _, _⟩ := hW8.cut
        injection e1 with e1
        subst e1
        obtain ⟨n8, hn8⟩ : ∃ n, (natI W9).length + 1 = n := ⟨_, rfl⟩
        rw [hn8] at hcap8 hW8 ⊢
        have hi8 : (0 : Int) < (n8 : Int) := by omega
        have hi80 : 0 < n8 := by omega
        have hi00 : (0 : Int) ≤ 0 := Int.le_refl 0
        have hadd8 : (⟨g7, off8, none⟩ : Addr).add 0 = ⟨g7, off8, none⟩ := by unfold Addr.add; split <;> simp_all
        have hx0 : (0 : Int) ≤ x := by omega
        have hx1 : (x : Int) < N + 1 := by omega
        have hXl : XL.length = N + 1 := hDH.out.1
        have hYl : YL.length = N + 1 := hDH.out.2.1
        have hS := S28.make hj8 hcb hX8 hY8 (show x < XL.length by omega) (show x < YL.length by omega)
        have hg16X : X ≠ g16 := fun e => by have := hL.xl; omega
        have hg16Y : Y ≠ g16 := fun e => by have := hL.yl; omega
        have hg7b := hW8.ge rfl
        have hg7X : X ≠ g7 := fun e => by have := hL.xl; omega
        have hg7Y : Y ≠ g7 := fun e => by have := hL.yl; omega
        have cC := Lib.hid (cost_any g6 g14 g10 g16 F N few r s j b xb hN hxb hxbN (by omega) hjN z hz hzr.1 hzr.2 wc.drew (CoC.drewN hC8 1))
        clear hmany
        go_region_held3 (fun w' => w'.cell? ⟨g16, 0, none⟩ = some (.int .i64 (j : Int)) ∧ w'.cell? ⟨g7, off8, none⟩ = some (.int .i64 (b : Int)) ∧ w'.cell? ⟨X, x, none⟩ = some (valAt w' X x) ∧ w'.frozen? ⟨X, x, none⟩ = false ∧ w'.cell? ⟨Y, x, none⟩ = some (valAt w' Y x) ∧ w'.frozen? ⟨Y, x, none⟩ = false)
          (first | assumption | exact hS | exact S28.set (by assumption) hg16X hg7X _ | exact S28.set (by assumption) hg16Y hg7Y _)
          (first
            | (go_at_call 235; (with_reducible refine cC.out.mono ?_); rintro e w5 ⟨rfl, q5, rfl⟩
               have hS5 := S28.drewN hS q5))
        go_wp2_with (fail)
        rename_i hHeld
        obtain ⟨wA, hwA⟩ : ∃ u, wc.drewN (1 + q5) = u := ⟨_, rfl⟩
        have hbA : Below wc.heap.size wc wA := by rw [← hwA]; exact below_drewN (Below.refl _ _) _
        have hXA := hX8.callee hbA
        have hYA := hY8.callee hbA
        have hFA := Fr.belowR hF8 hbA
        have hWA := RowI.callee hW8 hbA
        have hsA : wA.heap.size = wc.heap.size := by rw [← hwA]; rfl
        have hg7l := hW8.lt rfl
        rw [hwA]
        clear hHeld hwA hX8 hY8 hF8 hW8 hS hS5 hbA
        have hXB := hXA.set_ x (.int .i64 fx)
        rw [intArr_set] at hXB
        have hYB := hYA.far (p := ⟨X, x, none⟩) (Ne.symm hL.xy) (.int .i64 fx)
        have hYC := hYB.set_ x (.int .i64 (m : Int))
        rw [intArr_set] at hYC
        have hXC := hXB.far (p := ⟨Y, x, none⟩) hL.xy (.int .i64 (m : Int))
        have hWC := RowI.set2 hWA hg7X hg7Y x x (.int .i64 fx) (.int .i64 (m : Int))
        have hFC := Fr.setC (Fr.setC hFA (p := ⟨X, x, none⟩) (Or.inl rfl) (.int .i64 fx)) (p := ⟨Y, x, none⟩) (Or.inr rfl) (.int .i64 (m : Int))
        have hsC : ((wA.setCell ⟨X, x, none⟩ (.int .i64 fx)).setCell ⟨Y, x, none⟩ (.int .i64 (m : Int))).heap.size = wc.heap.size := by simp [hsA]
        generalize (wA.setCell ⟨X, x, none⟩ (.int .i64 fx)).setCell ⟨Y, x, none⟩ (.int .i64 (m : Int)) = wC at *
        have hbD : Below wC.heap.size wC (wC.alloc (.cells #[.int .i64 ((j : Int) + 1)] 3)) := (Below.refl _ _).alloc (Nat.le_refl _) _
        have hgD := Blk.new wC 3 #[.int .i64 ((j : Int) + 1)]
        rw [hsC] at hgD
        refine ⟨⟨j + 1, wc.heap.size, some g7, b :: W9, _, _, rfl, by simpa using hgD, by have := hFC.size; omega, by rw [e9]; exact RowI.callee hWC hbD, by simp; omega, hWH, hD9, by omega, hXC.callee hbD, hYC.callee hbD, Fr.belowR hFC hbD⟩, ?_⟩
        have e10 : jOf (wC.alloc (.cells #[.int .i64 ((j : Int) + 1)] 3)) (.pointer (some ⟨wc.heap.size, 0, none⟩)) = j + 1 := by
          have h1 := hgD.cell 0
          unfold jOf
          simp only [h1]
          show ((j : Int) + 1).toNat = j + 1
          omega
        rw [e10, hjO.out]
        omega
    · have hlei : decide ((x : Int) ≤ N) = false := decide_eq_false (by omega)
      have hlen : decide (x ≤ N) = false := decide_eq_false (by omega)
      have hD2 := hDH.out.next (show N < r + j * s by rw [hp, hx]; omega)
      clear hp hx
      go_wp2_with (fail)
      exact hexit _ _ XL YL _ _ _ _ _ _ _ _ _ _ _ _ _ _ _ _ _ _ _ _ _ _ _ _ _ _ _ _ _ _ _ _ _ _ _ _ _ _ _ _ _ _ _ _ _ _ _ _ _ _ _ _ _ _ _ _ _ _ _ _ _ _ _ _ _ _ _ _ _ _ _ hD2 hX hY hF
end Pk
end Go.Proofs.YtbgakdpbglpfaaaGreatDoor
