/- bunch's Nth. -/
import Derived.Test.YthbkfhhnhiplkaaDoorBuN
import Derived.Test.YthbkfhhnhiplkaaDoorRowX
namespace Go.Proofs.YthbkfhhnhiplkaaDoor
open Go.RowKit
def firstG (f k : Nat) : Nat → Nat → Nat
  | 0, j => j
  | u + 1, j => if pV f j ≤ k then firstG f k u (j + 1) else j
def nthF : Nat → Nat → Nat → List Nat
  | 0, _, _ => []
  | u + 1, f, k => if f = 0 then [] else firstG f k f 1 :: nthF u (f - firstG f k f 1) (k - pV f (firstG f k f 1 - 1))
namespace Bu
theorem rowI_empty (w : World) (base : Nat) (hb : base ≤ w.heap.size) : RowI (w.alloc (.cells #[] 3)) base (.slice (some ⟨w.heap.size, 0, none⟩) 0 0) (some w.heap.size) [] :=
  ⟨_, _, rfl, by simp, by decide, fun h => (by cases h), fun g hg => by
    obtain rfl : w.heap.size = g := by simpa using hg
    exact ⟨hb, 0, #[], rfl, Blk.new w 3 #[], by simp, fun j b hj => by simp at hj⟩⟩
theorem RowI.keep1 {w w' : World} {base : Nat} {v : Value} {og : Option Nat} {l : List Int} {g : Nat} (h : RowI w base v og l) (hb : w.grownBy w' (some g)) (hne : og ≠ some g) : RowI w' base v og l :=
  h.same fun g' hg' => hb.block g' (h.lt hg') (fun e => hne (by rw [hg', e]))
theorem RowI.own {w : World} {base : Nat} {v : Value} {og : Option Nat} {l : List Int} (h : RowI w base v og l) : ∃ A c, v = .slice A l.length c ∧ RInts w w.heap.size A l.length l := by
  obtain ⟨A, cap, e, h2, h3, h4, h5⟩ := h
  refine ⟨A, cap, e, ?_⟩
  cases og with
  | none =>
    obtain ⟨rfl, rfl⟩ := h4 rfl
    have hl0 : l = [] := List.eq_nil_of_length_eq_zero (by omega)
    subst hl0
    exact RInts.none_
  | some g =>
    obtain ⟨hbg, off, cs, rfl, e2, e3, e4⟩ := h5 g rfl
    refine ⟨by simp [ints_length], fun _ => ⟨_, rfl, e2.lt, fun j u hu => ?_⟩⟩
    have e : (⟨g, off, none⟩ : Addr).add j = ⟨g, off + j, none⟩ := by unfold Addr.add; split <;> simp_all
    rw [e, e2.cell]
    simp only [ints, List.getElem?_map] at hu
    obtain ⟨b, hb1, rfl⟩ := Option.map_eq_some_iff.1 hu
    exact e4 j b hb1
theorem firstG_at {f k : Nat} : ∀ u j, pV f j ≤ k → firstG f k (u + 1) j = firstG f k u (j + 1) := fun u j h => by rw [firstG, if_pos h]
theorem firstG_stop {f k u j : Nat} (h : ¬ pV f j ≤ k) : firstG f k u j = j := by
  cases u with
  | zero => rfl
  | succ u => rw [firstG, if_neg h]
/-- what is left is a number of a division of what is left -/
theorem nth_next {f k m : Nat} (h1 : 1 ≤ m) (h2 : m ≤ f) (hk : k < pV f m) : k - pV f (m - 1) < pV (f - m) (f - m) := by
  have h3 := pV_step (f := f) (m := m) (by omega) h2
  have h4 : pV (f - m) m ≤ pV (f - m) (f - m) := by
    rw [← pV_min (f - m) m]
    exact pV_mono _ (by omega)
  have h5 : 0 < pV (f - m) (f - m) := by
    rcases Nat.eq_zero_or_pos (f - m) with h0 | h0
    · rw [h0, pV_zero]; omega
    · have := pV_mono (f - m) (a := 1) (b := f - m) (by omega)
      have h6 := pV_step (f := f - m) (m := 1) (by omega) (by omega)
      have h7 : ∀ d, 0 < pV d 1 := by
        intro d
        induction d with
        | zero => rw [pV_zero]; omega
        | succ d ih =>
          rw [pV_step (by omega) (by omega)]
          have : d + 1 - 1 = d := by omega
          rw [this]
          omega
      have := h7 (f - m)
      omega
  omega
set_option maxRecDepth 100000 in
set_option maxHeartbeats 4000000 in
theorem Nth_ok (f k : Nat) (hf : f ≤ 30) (hk : k < pV f f) (w : World) : Calls Tryd.prog 7 #[.int .i64 (f : Int), .int .i64 (k : Int)] w fun e w' =>
    (∃ A c, e = .returned (.tuple #[.slice A (nthF f f k).length c, .int .i64 0]) ∧ RInts w' w'.heap.size A (nthF f f k).length (natI (nthF f f k))) ∧ Below w.heap.size w w' := by
  have hPl := pV_le (f := f) (m := f) hf
  obtain ⟨P, hP⟩ : ∃ P, pV f f = P := ⟨_, rfl⟩
  have hkH := Lib.hid hk
  have cc := Lib.hid (fun w' => Count_in f hf w')
  rw [hP] at cc hk hPl
  have cw := Lib.hid (fun w' => within_any (k : Int) 0 ((P : Int) - 1) w')
  rw [decide_eq_true (by omega)] at cw
  obtain ⟨R, hR⟩ : ∃ R, nthF f f k = R := ⟨_, rfl⟩
  rw [hR]
  have hR0 := Lib.hid (show [] ++ nthF f f k = R by rw [List.nil_append]; exact hR)
  clear hP hR
  go_enter Tryd.func7, Tryd.ntmps7
  go_wp2_with (first
    | (go_at_call 5; (with_reducible refine (cc.out _).mono ?_); rintro e w1 ⟨rfl, hb1⟩)
    | (go_at_call 20; (with_reducible refine (cw.out _).mono ?_); rintro e wz ⟨rfl, hwz⟩; replace hwz := hwz.symm; subst hwz)
    | (with_reducible show wpList _ _ _ (⟨_, .alloc 51, _, _, _, _⟩ :: _) _ _
       refine wpList_alloc_blk rfl 51 rfl _ zero_tally ?_
       intro w3 g hT hgr hge
       have hb3 := below_none hb1 hgr hb1.size
       have hT3 := TInv.start hT
       have hg3 := hT.lt
       have hge1 : w.heap.size ≤ g := Nat.le_trans hb1.size hge))
  have hT4 := hT3.none_ (World.grownBy_alloc w3 (.cells #[] 3) none)
  have hO4 := rowI_empty w3 w.heap.size hb3.size
  have hb4 := hb3.alloc hb3.size (.cells #[] 3)
  have hne0 : (some w3.heap.size : Option Nat) ≠ some g := by simp; omega
  go_loopw [0, 1, 9] (fun a b o wr => ∃ (f' k' u : Nat) (og : Option Nat) (acc : List Nat), a = .int .i64 f' ∧ b = .int .i64 k' ∧ f' ≤ u ∧ acc.length + f' ≤ 30 ∧ Hid (k' < pV f' f') ∧ Hid (acc ++ nthF u f' k' = R) ∧ RowI wr w.heap.size o og (natI acc) ∧ og ≠ some g ∧ (acc = [] → ∃ A, o = .slice A 0 0) ∧ TInv wr g ∧ Below w.heap.size w wr) (fun v _ _ _ => (intOf v).toNat)
  case atStart => exact ⟨f, k, f, _, [], rfl, rfl, Nat.le_refl _, by simpa using hf, hkH, hR0, hO4, hne0, fun _ => ⟨_, rfl⟩, hT4, hb4⟩
  case round =>
    clear hR0 hT4 hO4 hb4 hne0 hkH cc cw
    obtain ⟨f', k', u, og, acc, rfl, rfl, hfu, hal, hk', hE, hO, hog, hnil, hT', hbe⟩ := hrel
    obtain ⟨wa, rfl⟩ : ∃ x, x = wr := ⟨wr, rfl⟩
    by_cases hf0 : 0 < f'
    · have hf0i : (0 : Int) < f' := by omega
      obtain ⟨m, hm⟩ : ∃ m, firstG f' k' f' 1 = m := ⟨_, rfl⟩
      obtain ⟨u1, rfl⟩ : ∃ u1, u = u1 + 1 := ⟨u - 1, by omega⟩
      have hE1 := hE.out
      rw [nthF, if_neg (by omega), hm] at hE1
      have hE1H := Lib.hid hE1
      have hmH := Lib.hid hm
      have hk30 : k' ≤ 1152921504606846976 := Nat.le_of_lt (Nat.lt_of_lt_of_le hk'.out (pV_le (by omega)))
      have hp0 := Lib.hid (show pV f' (1 - 1) ≤ k' by rw [show 1 - 1 = 0 from rfl, pV_none hf0]; omega)
      clear hE hm hE1
      go_wp2_with (fail)
      go_loopw [10] (fun v wr => ∃ (j u2 : Nat), 1 ≤ j ∧ j + u2 = f' + 1 ∧ v = .int .i64 j ∧ Hid (firstG f' k' u2 j = m) ∧ Hid (pV f' (j - 1) ≤ k') ∧ RowI wr w.heap.size u9 og (natI acc) ∧ TInv wr g ∧ Below w.heap.size w wr) (fun v _ => f' + 1 - (intOf v).toNat)
      case atStart => exact ⟨1, f', by omega, by omega, rfl, hmH, hp0, hO, hT', hbe⟩
      case round =>
        clear hT' hO hbe hmH hp0
        obtain ⟨j, u2, h1j, hju, rfl, hG, hp, hO, hT', hbe⟩ := hrel
        obtain ⟨wb, rfl⟩ : ∃ x, x = wr := ⟨wr, rfl⟩
        have hjf : j ≤ f' := by
          rcases Nat.lt_or_ge f' j with h | h
          · have h2 := hp.out
            have h3 := hk'.out
            rw [show j - 1 = f' by omega] at h2
            omega
          · exact h
        have hV30 := pV_le (f := f') (m := j) (by omega)
        have cg := Lib.hid (fun w' (hT : TInv w' g) => counts_go g f' j (by omega) (by omega) w' hT)
        obtain ⟨V, hV⟩ : ∃ V, pV f' j = V := ⟨_, rfl⟩
        rw [hV] at cg hV30
        by_cases hVk : V ≤ k'
        · have hVi : (V : Int) ≤ k' := by omega
          obtain ⟨u3, rfl⟩ : ∃ u3, u2 = u3 + 1 := ⟨u2 - 1, by
            rcases Nat.lt_or_ge j f' with h | h
            · omega
            · have h3 := hk'.out
              rw [show j = f' by omega] at hV
              omega⟩
          have hG2 := Lib.hid (show firstG f' k' u3 (j + 1) = m by rw [← firstG_at u3 j (by rw [hV]; exact hVk)]; exact hG.out)
          have hp2 := Lib.hid (show pV f' (j + 1 - 1) ≤ k' by rw [Nat.add_sub_cancel, hV]; exact hVk)
          clear hV
          go_wp2_with (first
            | (go_at_call 21; (with_reducible refine (cg.out _ hT').mono ?_); rintro e w5 ⟨rfl, hT5, hg5⟩
               have hO5 := RowI.keep1 hO hg5 hog
               have hb5 := below_some hbe hg5 hbe.size hge1))
          go_roundw
          case rel => exact ⟨j + 1, u3, by omega, by omega, by go_num, hG2, hp2, hO5, hT5, hb5⟩
          case measure => simp only [intOf]; omega
        · have hVi : ¬ (V : Int) ≤ k' := by omega
          have hVn : decide (V ≤ k') = false := decide_eq_false hVk
          obtain rfl : j = m := by rw [← hG.out, firstG_stop (by rw [hV]; exact hVk)]
          obtain ⟨x1, hx1⟩ : ∃ x1, j - 1 = x1 := ⟨_, rfl⟩
          have hx1i : (j : Int) - 1 = x1 := by omega
          have hV1 := pV_le (f := f') (m := x1) (by omega)
          have cg1 := Lib.hid (fun w' (hT : TInv w' g) => counts_go g f' x1 (by omega) (by omega) w' hT)
          have hp1 := hp.out
          have hE2 := hE1H.out
          have hk2 := nth_next h1j hjf (show k' < pV f' j by rw [hV]; omega)
          rw [hx1] at hp1 hE2 hk2
          obtain ⟨V1, hV1e⟩ : ∃ V1, pV f' x1 = V1 := ⟨_, rfl⟩
          rw [hV1e] at cg1 hp1 hE2 hk2 hV1
          obtain ⟨k2, hk2e⟩ : ∃ k2, k' - V1 = k2 := ⟨_, rfl⟩
          obtain ⟨f2, hf2e⟩ : ∃ f2, f' - j = f2 := ⟨_, rfl⟩
          rw [hk2e, hf2e] at hE2 hk2
          have hki : (k' : Int) - V1 = k2 := by omega
          have hfi : (f' : Int) - j = f2 := by omega
          have hk2H := Lib.hid hk2
          have hE3 := Lib.hid (show (acc ++ [j]) ++ nthF u1 f2 k2 = R by rw [← hE2]; simp)
          have e1 : natI acc ++ [(j : Int)] = natI (acc ++ [j]) := by simp [natI]
          have hlen : (natI acc).length ≤ 1000000 := by simp [natI]; omega
          have hf2 : f2 ≤ u1 ∧ acc.length + 1 + f2 ≤ 30 := by omega
          clear hV hx1 hp1 hE2 hk2 hV1e
          go_wp2_with (first
            | (go_at_call 21; (with_reducible refine (cg.out _ hT').mono ?_); rintro e w5 ⟨rfl, hT5, hg5⟩
               have hO5 := RowI.keep1 hO hg5 hog
               have hb5 := below_some hbe hg5 hbe.size hge1
               clear hT' hO hg5)
            | (go_at_call 21; (with_reducible refine (cg1.out _ hT5).mono ?_); rintro e w6 ⟨rfl, hT6, hg6⟩
               have hO6 := RowI.keep1 hO5 hg6 hog
               have hb6 := below_some hb5 hg6 hb5.size hge1
               have hO6a := hO6.none_ (World.grownBy_alloc w6 (.cells #[.int .i64 (j : Int)] 3) none)
               have hT6a := hT6.none_ (World.grownBy_alloc w6 (.cells #[.int .i64 (j : Int)] 3) none)
               have hb6a := hb6.alloc hb6.size (.cells #[.int .i64 (j : Int)] 3)
               clear hT5 hO5 hg6 hO6 hT6)
            | (at_builtin
               refine wpList_pushX rfl _ _ rfl rfl hO6a hb6a.size w6.heap.size 1 (j : Int) rfl ((Blk.new w6 _ _).cell 0) hlen ?_
               intro v7 g7 w7 hO7 hst7
               rw [e1] at hO7))
          have hfin : (some g7 : Option Nat) ≠ some g ∧ TInv w7 g ∧ Below w.heap.size w w7 := by
            rcases hst7 with ⟨h1, h2⟩ | ⟨h1, h2, A, cap, h3, h4⟩
            · refine ⟨?_, hT6a.none_ h1, below_none hb6a h1 hb6a.size⟩
              have := hT6a.lt
              intro e
              injection e with e
              omega
            · have hne : g ≠ g7 := fun e => hog (by rw [h1, e])
              replace h3 : u9 = .slice A (natI acc).length cap := h3
              have hl1 : 1 ≤ (natI acc).length := by
                rcases Nat.eq_zero_or_pos (natI acc).length with h0 | h0
                · have ha : acc = [] := List.eq_nil_of_length_eq_zero (by simpa [natI] using h0)
                  obtain ⟨A2, h5⟩ := hnil ha
                  rw [h3] at h5
                  injection h5 with _ _ h5
                  omega
                · exact h0
              rw [h1, h3] at hO6a
              refine ⟨by intro e; injection e with e; exact hne e.symm, hT6a.some_ h2 hne (RowI.more hO6a (by omega)), below_some hb6a h2 hb6a.size (hO6a.ge rfl)⟩
          clear hst7 hO6a hT6a hb6a hb6 hb5
          go_roundw
          case rel => exact ⟨f2, k2, u1, some g7, acc ++ [j], rfl, rfl, hf2.1, by simp; omega, hk2H, hE3, hO7, hfin.1, fun h => absurd h (by simp), hfin.2.1, hfin.2.2⟩
          case measure => simp only [intOf]; omega
    · have hf0i : ¬ (0 : Int) < f' := by omega
      have hf0n : decide (0 < f') = false := decide_eq_false hf0
      have hR2 : acc = R := by
        rw [← hE.out]
        cases u with
        | zero => rw [nthF, List.append_nil]
        | succ u => rw [nthF, if_pos (by omega), List.append_nil]
      subst hR2
      obtain ⟨A, c, rfl, hr⟩ := RowI.own hO
      have el : (natI acc).length = acc.length := by simp [natI]
      rw [el] at hr ⊢
      go_wp2_with (fail)
      go_ret2
      exact ⟨⟨_, ⟨_, rfl⟩, hr⟩, hbe⟩
end Bu
end Go.Proofs.YthbkfhhnhiplkaaDoor
