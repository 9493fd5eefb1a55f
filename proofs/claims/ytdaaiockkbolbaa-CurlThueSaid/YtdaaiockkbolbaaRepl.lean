/- The law's replaced: the words for the letters are gathered in a slice and joined. -/
import Derived.Test.YtdaaiockkbolbaaOwnS
import Derived.Test.YtdaaiockkbolbaaNext
import Derived.Test.YtdaaiockkbolbaaPut
namespace Go.Proofs.Ytdaaiockkbolbaa
open Go.RowKit
theorem Row8.reads {w : World} {v : Value} {g : Nat} {l : Word} (h : Row8 w v (some g) l) : ∃ A c, v = .slice A l.length c ∧ Reads w w.heap.size 1 A l.length (l.map fun b => Value.int .u8 (b.toNat : Int)) := by
  have hlt := h.lt rfl
  obtain ⟨A, cap, h1, h2, h3, h4, h5⟩ := h
  obtain ⟨off, cs, rfl, e2, e3, e4⟩ := h5 g rfl
  refine ⟨_, cap, h1, by simp, fun _ => ⟨_, rfl, hlt, fun j u hu => ?_⟩⟩
  rw [List.getElem?_map] at hu
  cases hb : l[j]? with
  | none => rw [hb] at hu; cases hu
  | some b =>
    rw [hb] at hu
    obtain rfl : Value.int .u8 (b.toNat : Int) = u := by simpa using hu
    have : (⟨g, off, none⟩ : Addr).add j = ⟨g, off + j, none⟩ := by unfold Addr.add; split <;> simp_all
    rw [this, e2.cell]
    exact e4 j b hb
/-- the words for letters, as a list -/
def wordsOf (ws : List ByteArray) (x : Word) : List ByteArray := x.map fun b => ws.getD (b.toNat - 97) ⟨#[]⟩
theorem wordsOf_len (ws : List ByteArray) (x : Word) : (wordsOf ws x).length = x.length := by simp [wordsOf]
theorem wordsOf_join (ws : List ByteArray) (x : Word) : Lib.join ((wordsOf ws x).map (·.data.toList)) [] = putS ws x := by
  have h : ∀ r : List (List UInt8), Lib.join r [] = r.flatten := by
    intro r
    cases r with
    | nil => rfl
    | cons a r => rw [Lib.join_cons, Lib.joinTail]; simp
  rw [h, wordsOf, List.map_map, putS, List.flatMap_def]
  rfl
set_option maxRecDepth 100000 in
set_option maxHeartbeats 4000000 in
theorem lawReplaced_any (A : Option Addr) (n c : Nat) (ws : List ByteArray) (s : ByteArray) (w : World) (B : Nat) (hB : B ≤ w.heap.size) (hr : RStrs w B A n ws) (hn : n ≤ 4) (hl : lettersS (bts s) (n : Int) = true) (hsz : s.size ≤ 1000) (hws : ∀ t ∈ ws, t.size ≤ 1000) :
    Calls Try.prog 47 #[.agg #[.slice A n c], .string s] w fun e w' => e = .returned (.string ⟨(putS ws (bts s)).toArray⟩) ∧ Below w.heap.size w w' := by
  have hlH := Lib.hid hl
  have hputl : (putS ws (bts s)).length ≤ 140737488355328 := by
    have h1 := putS_len hws (bts s)
    rw [bts_len] at h1
    have h2 : s.size * 1000 ≤ 1000 * 1000 := Nat.mul_le_mul_right _ hsz
    omega
  obtain ⟨l, hbl⟩ : ∃ l, bts s = l := ⟨_, rfl⟩
  have hln : l.length = s.size := by rw [← hbl, bts_len]
  have hconv := Lib.hid (fun w' => bytes_conv w' s (by omega))
  rw [hbl] at hlH hputl hconv ⊢
  obtain ⟨m, hm⟩ : ∃ m, l.length = m := ⟨_, rfl⟩
  have hmH := Lib.hid hm
  have hm1 : (m : Int) ≤ 1000 := by omega
  clear hl hws hln hbl
  go_enter Try.func47, Try.ntmps47
  go_wp2_with (first
    | (with_reducible show wpList _ _ _ (⟨_, .box 38 _, _, _, _, _⟩ :: _) _ _
       refine wpList_box_blk rfl 38 _ rfl #[.slice A n c] rfl ?_
       intro w1 g hG hgr hge
       have hb1 : Below w.heap.size w w1 := below_none (Below.refl _ _) hgr (Nat.le_refl _)
       have hr1 := hr.later hB hb1
       have hB1 : B ≤ w1.heap.size := Nat.le_trans hB hb1.size
       obtain ⟨v, w2, hcv, hrow, hb2⟩ := hconv.out w1
       obtain ⟨A8, c8, rfl, hr8⟩ := hrow.reads
       rw [hmH.out] at hcv hr8
       clear hgr hrow))
  have hG2 := hG.callee hb2
  have hr2 := hr1.later hB1 hb2
  have hB2 : B ≤ w2.heap.size := Nat.le_trans hB1 hb2.size
  have hb20 := hb1.trans (hb2.mono hb1.size)
  clear hcv hb2 hG hr1
  go_loopw [5, 11] (fun o v wr => ∃ i : Nat, i ≤ m ∧ v = .int .i64 i ∧ OwnS wr w2.heap.size o (wordsOf ws (l.take i)) ∧ Below w2.heap.size w2 wr) (fun _ v _ => m - (intOf v).toNat)
  case atStart => exact ⟨0, by omega, rfl, OwnS.nil _ _, Below.refl _ _⟩
  case round =>
    obtain ⟨i, hi, rfl, ho, hbe⟩ := hrel
    by_cases hlt : i < m
    · have hlti : (i : Int) < m := by omega
      have cg := (hbe.cell (p := ⟨g, 0, none⟩) hG2.lt).trans (hG2.cell 0)
      obtain ⟨ad8, u, rfl, hadb8, hu, hcell8⟩ := Reads.at_ (hr8.below hbe) hlt
      obtain ⟨y, hy⟩ : ∃ y, l[i]? = some y := ⟨_, List.getElem?_eq_getElem (by omega)⟩
      obtain rfl : u = .int .u8 (y.toNat : Int) := by
        rw [List.getElem?_map, hy] at hu
        simpa using hu.symm
      have hl12 : 97 ≤ y.toNat ∧ y.toNat ≤ 96 + n := by
        have := (List.all_eq_true.1 hlH.out) y (List.mem_of_getElem? hy)
        simp only [Bool.and_eq_true, decide_eq_true_eq] at this
        omega
      obtain ⟨hl1, hl2⟩ := hl12
      have hyH := Lib.hid hy
      obtain ⟨k, hk⟩ : ∃ k : Nat, (y.toNat : Int) - 97 = k := ⟨y.toNat - 97, by omega⟩
      have hkn : k < n := by omega
      have hkni : (k : Int) < n := by omega
      obtain ⟨ad, t, rfl, hadb, hcell, hwt⟩ := (hr2.later hB2 hbe).at_ hkn
      have hN := Lib.hid (show wordsOf ws (l.take (i + 1)) = wordsOf ws (l.take i) ++ [t] by
        rw [List.take_add_one, hyH.out]
        simp only [wordsOf, List.map_append, Option.toList_some, List.map_cons, List.map_nil]
        rw [show y.toNat - 97 = k by omega, List.getD, hwt.out]
        rfl)
      have hol := wordsOf_len ws (l.take i)
      rw [List.length_take] at hol
      obtain ⟨P, hP⟩ : ∃ P, wordsOf ws (l.take i) = P := ⟨_, rfl⟩
      rw [hP] at ho hN hol
      have hPL : P.length ≤ 1000000000 := by omega
      have hw8 := u8_small (k := k) (by omega)
      clear hP hu hy hol
      go_wp2_with (first
        | (at_builtin
           refine wpList_pushS rfl _ _ rfl rfl (ho.none_ (World.grownBy_alloc wr _ none)) wr.heap.size 1 t rfl (Blk.new wr _ _) hPL (by have := hbe.size; show _ ≤ (wr.heap.push _).size; simp; omega) ?_
           intro g6 cap6 w6 ho6 hgr6 _ _
           have hb6 := (hbe.alloc hbe.size (.cells #[.string t] 9)).grown hgr6 (by have := hbe.size; show _ ≤ (wr.heap.push _).size; simp; omega) (fun g hg => ho.ge hg)))
      go_roundw
      case rel => exact ⟨i + 1, by omega, by go_num, by rw [hN.out]; simpa [OwnS] using ho6, hb6⟩
      case measure => simp only [intOf]; omega
    · have hlti : ¬ (i : Int) < m := by omega
      rw [List.take_of_length_le (by omega)] at ho
      have hX := Lib.hid (wordsOf_join ws l)
      have hXl := wordsOf_len ws l
      obtain ⟨X, hXe⟩ : ∃ X, wordsOf ws l = X := ⟨_, rfl⟩
      rw [hXe] at hX hXl ho
      rw [hmH.out] at hXl
      clear hXe
      have ho' := ho
      rcases ho.2 with ⟨rfl, h0⟩ | ⟨gb, cap, cur, rfl, hgb, hgg, hcap, hcur, _⟩
      · have hX0 : X = [] := List.eq_nil_of_length_eq_zero h0
        rw [hX0] at hX
        have hE := Lib.hid (show (⟨#[]⟩ : ByteArray) = ⟨(putS ws l).toArray⟩ by rw [← hX.out]; rfl)
        clear ho ho'
        go_wp2_with (first
          | (go_at_call 80; (with_reducible refine (Try.strings_Join_none _ _ _ _).mono ?_); rintro e w7 ⟨rfl, rfl⟩))
        go_ret
        exact ⟨by rw [hE.out]; rfl, hb20.trans (hbe.mono hb20.size)⟩
      · obtain ⟨A9, c9, he9, hr9⟩ := ho'.reads
        obtain rfl : some ⟨gb, 0, none⟩ = A9 := by injection he9
        have hcells : ∀ (j : Nat) x, X[j]? = some x → wr.cell? ⟨gb, 0 + j, none⟩ = some (.string x) := by
          intro j x hx
          have hjl : j < X.length := (List.getElem?_eq_some_iff.1 hx).1
          obtain ⟨ad9, t9, hA9, _, hc9, ht9⟩ := hr9.at_ hjl
          obtain rfl : (⟨gb, 0, none⟩ : Addr) = ad9 := by injection hA9
          obtain rfl : x = t9 := by
            have := ht9.out
            rw [hx] at this
            simpa using this
          rw [← hc9]
          congr 1
          unfold Addr.add
          split <;> simp_all
        have hlt9 : gb < wr.heap.size := ho'.lt rfl
        have hcap9 : X.length ≤ cap := by have := hcap; omega
        have hXs : X.length ≤ 140737488355328 := by omega
        have hj9 := Lib.hid (Try.strings_Join gb 0 cap X ⟨#[]⟩ wr hcells hlt9 hXs hcap9 (by
          show (Lib.join (X.map (·.data.toList)) []).length ≤ _
          rw [hX.out]; exact hputl))
        have hj9b := Lib.hid (show (⟨(Lib.join (X.map (·.data.toList)) (⟨#[]⟩ : ByteArray).data.toList).toArray⟩ : ByteArray) = ⟨(putS ws l).toArray⟩ by rw [← hX.out])
        clear ho ho' he9 hr9 hcells hcap hcap9 hXl hX hgg hcur
        go_wp2_with (first
          | (go_at_call 80; (with_reducible refine hj9.out.mono ?_); rintro e w7 ⟨rfl, hb7⟩))
        go_ret
        exact ⟨by rw [hj9b.out]; rfl, (hb20.trans (hbe.mono hb20.size)).trans (hb7.mono (hb20.trans (hbe.mono hb20.size)).size)⟩
end Go.Proofs.Ytdaaiockkbolbaa
