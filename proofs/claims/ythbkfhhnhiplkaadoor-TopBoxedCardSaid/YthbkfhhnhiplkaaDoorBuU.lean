/- bunch's turned, Turn. -/
import Derived.Test.YthbkfhhnhiplkaaDoorBuN
import Derived.Test.YthbkfhhnhiplkaaDoorPush
import Derived.Deep.CutRange
namespace Go.Proofs.YthbkfhhnhiplkaaDoor
open Go.RowKit
namespace Bu
theorem desc_get {xs : List Nat} (hD : xs.Pairwise (fun a b => b ≤ a)) {i x y : Nat} (h1 : xs[i]? = some x) (h2 : xs[i + 1]? = some y) : y ≤ x := by
  obtain ⟨l1, e1⟩ := List.getElem?_eq_some_iff.1 h1
  obtain ⟨l2, e2⟩ := List.getElem?_eq_some_iff.1 h2
  have := List.pairwise_iff_getElem.1 hD i (i + 1) l1 l2 (by omega)
  rw [e1, e2] at this
  exact this
set_option maxRecDepth 100000 in
set_option maxHeartbeats 4000000 in
theorem turned_ok (A : Option Addr) (n c : Nat) (xs : List Nat) (hD : Div xs) (w : World) (B : Nat) (hB : B ≤ w.heap.size) (hr : RInts w B A n (natI xs)) : Calls Tryd.prog 32 #[.slice A n c] w fun e w' => (∃ v, e = .returned v ∧ OwnI w' w.heap.size v (natI (turnedN xs n))) ∧ Below w.heap.size w w' := by
  have hln := hr.len
  have hxl : xs.length = n := by simpa [natI] using hln
  have hDH := Lib.hid hD
  have hn30 := hD.len
  obtain ⟨R, hR⟩ : ∃ R, turnedN xs n = R := ⟨_, rfl⟩
  have hRH := Lib.hid (show [] ++ turnedN xs n = R by rw [List.nil_append, hR])
  rw [hR]
  clear hR hD
  go_enter Tryd.func32, Tryd.ntmps32
  go_wp2_with (fail)
  go_loopw [3, 4] (fun o v wr => ∃ (i : Nat) (O : List Nat), i ≤ n ∧ v = .int .i64 i ∧ O.length + 30 * i ≤ 30 * n ∧ Hid (O ++ turnedN xs i = R) ∧ OwnI wr w.heap.size o (natI O) ∧ Below w.heap.size w wr) (fun _ v _ => (intOf v).toNat)
  case atStart => exact ⟨n, [], by omega, rfl, by simp, hRH, OwnI_empty w, (Below.refl w.heap.size w).alloc (Nat.le_refl _) _⟩
  case round =>
    obtain ⟨i, O, hi, rfl, hol, hO, hown, hbe⟩ := hrel
    obtain ⟨wa, rfl⟩ : ∃ x, x = wr := ⟨wr, rfl⟩
    cases i with
    | succ i =>
      have hi0 : (0 : Int) < (i + 1 : Nat) := by omega
      have hii : ((i + 1 : Nat) : Int) - 1 = (i : Nat) := by omega
      obtain ⟨ad, z, rfl, _, hcell, hz⟩ := (hr.later hB hbe).at_ (show i < n by omega)
      obtain ⟨x, hx, rfl⟩ := natI_at hz.out
      have hxp := hDH.out.pos x (List.mem_of_getElem? hx)
      have hOo := hO.out
      rw [turnedN, List.getD_eq_getElem?_getD, hx, Option.getD_some] at hOo
      obtain ⟨y, hy⟩ : ∃ y, xs.getD (i + 1) 0 = y := ⟨_, rfl⟩
      rw [hy] at hOo
      have hyx : y ≤ x := by
        rw [List.getD_eq_getElem?_getD] at hy
        cases h2 : xs[i + 1]? with
        | none => rw [h2] at hy; simp at hy; omega
        | some y2 =>
          rw [h2, Option.getD_some] at hy
          have := desc_get hDH.out.desc hx h2
          omega
      obtain ⟨d, hd⟩ : ∃ d, x - y = d := ⟨_, rfl⟩
      rw [hd] at hOo
      have hdi : (x : Int) - (y : Int) = d := by omega
      have hd30 : d ≤ 30 := by omega
      have hOH := Lib.hid hOo
      have hyH := Lib.hid hy
      obtain ⟨i1, hi1⟩ : ∃ i1, i + 1 = i1 := ⟨_, rfl⟩
      rw [hi1] at hi0 hii
      clear hOo hd hy hx hO
      rw [hi1] at hyH hOH hi hol ⊢
      have hi1b : i < i1 := by omega
      have hi1c : i1 ≤ i + 1 := by omega
      clear hi1
      have hi0n : decide (0 < i1) = true := decide_eq_true (by omega)
      go_upto_if 16 with (fail)
      go_cut [5] from 13 to 20 (fun v wx => v = .int .i64 y ∧ wx = wa)
      case first =>
        by_cases hlt : i1 < n
        · have hlti : (i1 : Int) < n := by omega
          obtain ⟨ad2, z2, hae, _, hcell2, hz2⟩ := (hr.later hB hbe).at_ hlt
          obtain rfl : ad = ad2 := by simpa using hae
          obtain ⟨y2, hy2, rfl⟩ := natI_at hz2.out
          have hyy := hyH.out
          rw [List.getD_eq_getElem?_getD, hy2, Option.getD_some] at hyy
          subst hyy
          clear hy2
          go_wp2_with (fail)
          go_meet
          exact ⟨rfl, rfl⟩
        · have hlti : ¬ (i1 : Int) < n := by omega
          have hyy := hyH.out
          rw [List.getD_eq_getElem?_getD, List.getElem?_eq_none (by omega), Option.getD_none] at hyy
          have hy0 := Lib.hid (show Value.int .i64 0 = Value.int .i64 (y : Int) by rw [← hyy]; rfl)
          clear hyy
          go_wp2_with (fail)
          go_meet
          exact ⟨hy0.out, rfl⟩
      case rest =>
        obtain ⟨rfl, rfl⟩ := hcut
        go_wp2_with (fail)
        go_loopw [3, 28] (fun o v wr => ∃ (k : Nat) (O2 : List Nat), k ≤ d ∧ v = .int .i64 k ∧ O2.length ≤ O.length + k ∧ Hid (O2 ++ (List.replicate (d - k) i1 ++ turnedN xs i) = R) ∧ OwnI wr w.heap.size o (natI O2) ∧ Below w.heap.size w wr) (fun _ v _ => d - (intOf v).toNat)
        case atStart => exact ⟨0, O, by omega, rfl, by simp, Lib.hid (by rw [← hOH.out, Nat.sub_zero]), hown, hbe⟩
        case round =>
          clear hown hbe hcell
          obtain ⟨k, O2, hk, rfl, ho2, hO2, hown, hbe⟩ := hrel
          obtain ⟨wb, rfl⟩ : ∃ x, x = wr := ⟨wr, rfl⟩
          by_cases hkd : k < d
          · have hkdi : (k : Int) < d := by omega
            have hOn := Lib.hid (show (O2 ++ [i1]) ++ (List.replicate (d - (k + 1)) i1 ++ turnedN xs i) = R by
              rw [← hO2.out, show d - k = (d - (k + 1)) + 1 by omega, List.replicate_succ]
              simp)
            have hns := Lib.hid (show natI (O2 ++ [i1]) = natI O2 ++ [(i1 : Int)] by simp [natI])
            have hnl : (natI O2).length ≤ 1000000000 := by simp only [natI, List.length_map]; omega
            go_wp2_with (first
              | (at_builtin
                 refine wpList_push rfl _ _ rfl rfl (hown.none_ (World.grownBy_alloc wb _ none)) wb.heap.size 1 (i1 : Int) rfl (Blk.new wb _ _) hnl (by have := hbe.size; show _ ≤ (wb.heap.push _).size; simp; omega) ?_
                 intro g6 cap6 w6 ho6 hgr6 _ _
                 have hb6 := (hbe.alloc hbe.size (.cells #[.int .i64 (i1 : Int)] 3)).grown hgr6 (by have := hbe.size; show _ ≤ (wb.heap.push _).size; simp; omega) (fun g hg => hown.ge hg)))
            go_roundw
            case rel =>
             exact ⟨k + 1, O2 ++ [i1], by omega, by go_num, by simp; omega, hOn, by rw [hns.out]; simpa [OwnI] using ho6, hb6⟩
            case measure => simp only [intOf]; omega
          · have hkdi : ¬ (k : Int) < d := by omega
            have hOn := Lib.hid (show O2 ++ turnedN xs i = R by rw [← hO2.out, show d - k = 0 by omega]; rfl)
            go_wp2_with (fail)
            go_roundw
            case rel => exact ⟨i, O2, by omega, rfl, by omega, hOn, hown, hbe⟩
            case measure => simp only [intOf]; omega
    | zero =>
      have hN := Lib.hid (show O = R by have := hO.out; rwa [turnedN, List.append_nil] at this)
      have h00 : ((0 : Nat) : Int) = 0 := rfl
      go_wp2_with (fail)
      go_ret
      exact ⟨⟨_, rfl, by rw [← hN.out]; exact hown⟩, hbe⟩
set_option maxRecDepth 100000 in
set_option maxHeartbeats 4000000 in
theorem Turn_ok (A : Option Addr) (n c : Nat) (xs : List Nat) (hD : Div xs) (w : World) (B : Nat) (hB : B ≤ w.heap.size) (hr : RInts w B A n (natI xs)) : Calls Tryd.prog 14 #[.slice A n c] w fun e w' => (∃ v, e = .returned (.tuple #[v, .int .i64 0]) ∧ OwnI w' w.heap.size v (natI (turnedN xs n))) ∧ Below w.heap.size w w' := by
  have hDH := Lib.hid hD
  go_enter Tryd.func14, Tryd.ntmps14
  go_wp2_with (first
    | (go_at_call 30; (with_reducible refine (Check_ok A n c xs hDH.out w B hr).mono ?_); rintro e wz ⟨rfl, hwz⟩; replace hwz := hwz.symm; subst hwz)
    | (go_at_call 32; (with_reducible refine (turned_ok A n c xs hDH.out w B hB hr).mono ?_); rintro e w1 ⟨⟨v, rfl, hv⟩, hb1⟩))
  go_ret2
  exact ⟨⟨_, rfl, hv⟩, hb1⟩
end Bu
end Go.Proofs.YthbkfhhnhiplkaaDoor
