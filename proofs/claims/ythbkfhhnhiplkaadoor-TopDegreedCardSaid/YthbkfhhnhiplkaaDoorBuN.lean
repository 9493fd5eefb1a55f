/- bunch's Number, turned, Turn. -/
import Derived.Test.YthbkfhhnhiplkaaDoorBuC
namespace Go.Proofs.YthbkfhhnhiplkaaDoor
open Go.RowKit
theorem pV_next (f m : Nat) : pV f m ≤ pV f (m + 1) := by
  by_cases h : m + 1 ≤ f
  · rw [pV_step (m := m + 1) (by omega) h, Nat.add_sub_cancel]
    omega
  · rw [← pV_min f m, ← pV_min f (m + 1), show min m f = min (m + 1) f by omega]
    exact Nat.le_refl _
theorem pV_mono (f : Nat) {a b : Nat} (h : a ≤ b) : pV f a ≤ pV f b := by
  obtain ⟨d, rfl⟩ : ∃ d, b = a + d := ⟨b - a, by omega⟩
  clear h
  induction d with
  | zero => exact Nat.le_refl _
  | succ d ih => exact Nat.le_trans ih (pV_next f (a + d))
namespace Bu
theorem numD_le (xs : List Nat) : ∀ left m, xs.Pairwise (fun a b => b ≤ a) → (∀ x ∈ xs, 1 ≤ x ∧ x ≤ m) → xs.sum ≤ left → numD xs left ≤ pV left m := by
  induction xs with
  | nil => intro left m _ _ _; exact Nat.zero_le _
  | cons x r ih =>
    intro left m hd hp hs
    rw [List.pairwise_cons] at hd
    rw [List.sum_cons] at hs
    have hx := hp x (by simp)
    have h1 := ih (left - x) x hd.2 (fun y hy => ⟨(hp y (by simp [hy])).1, hd.1 y hy⟩) (by omega)
    have h2 := pV_step (f := left) (m := x) (by omega) (by omega)
    have h3 := pV_mono left hx.2
    rw [numD]
    omega
set_option maxRecDepth 100000 in
set_option maxHeartbeats 4000000 in
theorem Number_ok (A : Option Addr) (n c : Nat) (xs : List Nat) (hD : Div xs) (w : World) (B : Nat) (hB : B ≤ w.heap.size) (hr : RInts w B A n (natI xs)) : Calls Tryd.prog 13 #[.slice A n c] w fun e w' => e = .returned (.tuple #[.int .i64 (numD xs xs.sum : Nat), .int .i64 0]) ∧ Below w.heap.size w w' := by
  have hln := hr.len
  have hxl : xs.length = n := by simpa [natI] using hln
  have hDH := Lib.hid hD
  have hn30 := hD.len
  obtain ⟨R, hR⟩ : ∃ R, numD xs xs.sum = R := ⟨_, rfl⟩
  have hRb : R ≤ 1152921504606846976 := by
    rw [← hR]
    exact Nat.le_trans (numD_le xs xs.sum 30 hD.desc hD.pos (Nat.le_refl _)) (pV_le hD.sum)
  have cs := Lib.hid (fun w' (h : RInts w' B A n (natI xs)) => sum_any A n c xs hD w' B h)
  have cc := Lib.hid (fun w' (h : RInts w' B A n (natI xs)) => Check_ok A n c xs hD w' B h)
  have hR0 := Lib.hid (show 0 + numD (xs.drop 0) xs.sum = R by rw [List.drop_zero, Nat.zero_add]; exact hR)
  obtain ⟨s0, hs0⟩ : ∃ s, xs.sum = s := ⟨_, rfl⟩
  have hs30 : s0 ≤ 30 := by rw [← hs0]; exact hD.sum
  have hs0H := Lib.hid hs0
  rw [hs0] at cs hR0
  rw [hR]
  clear hR hD hs0
  go_enter Tryd.func13, Tryd.ntmps13
  go_wp2_with (first
    | (go_at_call 30; (with_reducible refine (cc.out _ hr).mono ?_); rintro e wz ⟨rfl, hwz⟩; replace hwz := hwz.symm; subst hwz)
    | (with_reducible show wpList _ _ _ (⟨_, .alloc 51, _, _, _, _⟩ :: _) _ _
       refine wpList_alloc_blk rfl 51 rfl _ zero_tally ?_
       intro w3 g hT hgr hge
       have hb3 := below_none (Below.refl w.heap.size w) hgr (Nat.le_refl _)
       have hT3 := TInv.start hT)
    | (go_at_call 31; (with_reducible refine (cs.out _ (hr.later hB hb3)).mono ?_); rintro e wz ⟨rfl, hwz⟩; replace hwz := hwz.symm; subst hwz))
  go_loopw [6, 7, 20] (fun l o v wr => ∃ i left out : Nat, i ≤ n ∧ v = .int .i64 i ∧ l = .int .i64 left ∧ o = .int .i64 out ∧ left ≤ 30 ∧ Hid (left + (xs.take i).sum = s0) ∧ Hid (out + numD (xs.drop i) left = R) ∧ TInv wr g ∧ Below w.heap.size w wr) (fun _ _ v _ => n - (intOf v).toNat)
  case atStart => exact ⟨0, s0, 0, by omega, rfl, rfl, rfl, hs30, Lib.hid rfl, hR0, hT3, hb3⟩
  case round =>
    obtain ⟨i, left, out, hi, rfl, rfl, rfl, hl30, hls, ho, hT4, hbe⟩ := hrel
    obtain ⟨wa, rfl⟩ : ∃ x, x = wr := ⟨wr, rfl⟩
    by_cases hlt : i < n
    · have hlti : (i : Int) < n := by omega
      obtain ⟨ad, z, rfl, _, hcell, hz⟩ := (hr.later hB hbe).at_ hlt
      obtain ⟨x, hx, rfl⟩ := natI_at hz.out
      have hxp := hDH.out.pos x (List.mem_of_getElem? hx)
      have hst := sum_take hx
      have hle := sum_le xs (i + 1)
      rw [hs0H.out] at hle
      have hlo := hls.out
      have hoo := ho.out
      rw [numD_step hx] at hoo
      obtain ⟨l1, hl1⟩ : ∃ l1, left - x = l1 := ⟨_, rfl⟩
      obtain ⟨x1, hx1⟩ : ∃ x1, x - 1 = x1 := ⟨_, rfl⟩
      rw [hl1, hx1] at hoo
      obtain ⟨V, hV⟩ : ∃ V, pV left x1 = V := ⟨_, rfl⟩
      rw [hV] at hoo
      have hls1 := Lib.hid (show l1 + (xs.take (i + 1)).sum = s0 by rw [hst]; omega)
      have cg := Lib.hid (fun w' (hT : TInv w' g) => counts_go g left x1 hl30 (by omega) w' hT)
      rw [hV] at cg
      obtain ⟨o1, ho1⟩ : ∃ o1, out + V = o1 := ⟨_, rfl⟩
      have hoN := Lib.hid (show o1 + numD (xs.drop (i + 1)) l1 = R by omega)
      have hli : (left : Int) - x = l1 := by omega
      have hxi : (x : Int) - 1 = x1 := by omega
      have hoi : (out : Int) + V = o1 := by omega
      have ho1b : o1 ≤ 1152921504606846976 := by omega
      have hVb : V ≤ 1152921504606846976 := by omega
      have houtb : out ≤ 1152921504606846976 := by omega
      have hl1b : l1 ≤ 30 := by omega
      have hx1b : x1 ≤ 30 := by omega
      clear hst hle hlo hoo hl1 hx1 hV ho1 hx
      go_wp2_with (first
        | (go_at_call 21; (with_reducible refine (cg.out _ hT4).mono ?_); rintro e w5 ⟨rfl, hT5, hg5⟩
           have hb5 := below_some hbe hg5 hbe.size hge))
      go_roundw
      case rel => exact ⟨i + 1, l1, o1, by omega, by go_num, rfl, rfl, hl1b, hls1, hoN, hT5, hb5⟩
      case measure => simp only [intOf]; omega
    · have hlti : ¬ (i : Int) < n := by omega
      have hN := Lib.hid (show out = R by
        have := ho.out
        rw [List.drop_of_length_le (by omega), numD] at this
        exact this)
      go_wp2_with (fail)
      go_ret2
      exact ⟨by rw [← hN.out]; rfl, hbe⟩
theorem OwnI_empty (w : World) : OwnI (w.alloc (.cells #[] 3)) w.heap.size (.slice (some ⟨w.heap.size, 0, none⟩) 0 0) [] := by
  refine ⟨rfl, Or.inr ⟨w.heap.size, 0, #[], rfl, Nat.le_refl _, Blk.new w 3 #[], Nat.le_refl _, ?_, ?_, ?_⟩⟩ <;> simp [maxLen, ints]
theorem natI_append (xs ys : List Nat) : natI (xs ++ ys) = natI xs ++ natI ys := by simp [natI]
end Bu
end Go.Proofs.YthbkfhhnhiplkaaDoor
