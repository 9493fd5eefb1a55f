/- The book's File, walked. -/
import Derived.Test.YtbgakdpbglpfaaaGreatDoorDrWh
import Derived.Lib.ItoaLen
namespace Go.Proofs.YtbgakdpbglpfaaaGreatDoor
open Go.RowKit
namespace Dr
set_option linter.unusedSimpArgs false
def headL (n : Nat) : List UInt8 := [97, 105, 103, 114, 101, 116, 116, 101, 32] ++ Lib.decDigits n ++ [10]
def bodyL (ls : List ByteArray) : List UInt8 := (ls.map fun l => byts l ++ [10]).flatten
def fileL (ls : List ByteArray) : List UInt8 := headL ls.length ++ bodyL ls ++ [115, 117, 109, 32] ++ Lib.decDigits (sumB (headL ls.length ++ bodyL ls)) ++ [10]
theorem bodyL_snoc (ls : List ByteArray) (l : ByteArray) : bodyL (ls ++ [l]) = bodyL ls ++ (byts l ++ [10]) := by
  unfold bodyL
  rw [List.map_append, List.flatten_append, List.map_singleton, List.flatten_singleton]
/-- all lines are short -/
def LShort (B : Book) : Prop := ∀ l ∈ B.lines, l.size ≤ 40
theorem would_short {B : Book} {line : ByteArray} (h : B.would line = 0) : line.size ≤ 40 := by
  refine Nat.not_lt.1 fun hl => ?_
  have h1 : (readP line).1 = 19 := by
    unfold readP readL
    rw [if_pos (by have := byts_len line; unfold byts at this; omega)]
  unfold Book.would at h
  simp only [] at h
  rw [if_pos (by rw [h1]; decide), h1] at h
  cases h
theorem LShort.new : LShort Book.new := fun l hl => by cases hl
theorem LShort.done {B : Book} (h : LShort B) (line : ByteArray) : LShort (B.done line) := by
  unfold Book.done
  by_cases hw : B.would line = 0
  · rw [if_pos hw]
    intro l hl
    rcases List.mem_append.1 hl with hl | hl
    · exact h l hl
    · obtain rfl := List.mem_singleton.1 hl
      exact would_short hw
  · rw [if_neg hw]
    exact h
theorem LShort.told (ls : List ByteArray) : LShort (Book.told ls) := by
  have h : ∀ (ls : List ByteArray) (b : Book), LShort b → LShort (ls.foldl Book.done b) := by
    intro ls
    induction ls with
    | nil => exact fun b I => I
    | cons x ls ih => exact fun b I => ih _ (I.done x)
  exact h ls _ .new
theorem LShort.undo {B : Book} (I : LShort B) : LShort B.undo.2 := by
  unfold Book.undo
  by_cases h : B.lines.isEmpty = true
  · rw [if_pos h]; exact I
  · rw [if_neg h]; exact LShort.told _
theorem bodyL_len : ∀ (ls : List ByteArray), (∀ l ∈ ls, l.size ≤ 40) → (bodyL ls).length ≤ 41 * ls.length
  | [], _ => Nat.le_refl _
  | l :: ls, h => by
    have h1 := bodyL_len ls fun x hx => h x (List.mem_cons_of_mem _ hx)
    have h2 := h l List.mem_cons_self
    unfold bodyL at h1 ⊢
    rw [List.map_cons, List.flatten_cons, List.length_append, List.length_append, byts_len, List.length_cons, List.length_cons, List.length_nil]
    omega
/-- the table of powers of ten -/
def Itb (w : World) : Prop := Lib.TabIs Tryz.prog w "internal/strconv.uint64pow10" .u64 Lib.pow10Tab
theorem itb_name : Tryz.prog.globalNamed "internal/strconv.uint64pow10" = some 2 := by kernel_rfl
section
variable {w w' : World} {V V' : Vals} {gb : Nat} {vl : Value} {B : Book} {S : House}
theorem Itb.later (h : Itb w) (hb : w'.heap[2]? = w.heap[2]?) : Itb w' := by
  unfold Itb Lib.TabIs World.var? at h ⊢
  rw [itb_name] at h ⊢
  simp only [Option.bind_some] at h ⊢
  rw [hb]
  exact h
theorem Itb.lt (h : Itb w) : 2 < w.heap.size := by
  refine Nat.not_le.1 fun hle => ?_
  unfold Itb Lib.TabIs World.var? at h
  rw [itb_name] at h
  simp only [Option.bind_some] at h
  rw [Array.getElem?_eq_none hle] at h
  cases h
theorem Itb.below (h : Itb w) (hb : Below w.heap.size w w') : Itb w' := h.later (hb.block _ h.lt)
theorem itoa_any (n : Nat) (hn : n ≤ 100000) (ht : Itb w) : Calls Tryz.prog 44 #[.int .i64 (n : Int)] w fun e w' => e = .returned (.string (bstr (Lib.decDigits n))) ∧ Below w.heap.size w w' := by
  refine (Tryz.strconv_Itoa (n : Int) (by omega) (by omega) w ht).mono ?_
  rintro e w' ⟨rfl, k, os, rfl⟩
  rw [Lib.itoa_nonneg]
  refine ⟨rfl, rfl, rfl, rfl, ?_, fun i hi => ?_⟩
  · show w.heap.size ≤ ((w.drewN k).heap ++ os).size
    rw [Array.size_append]
    exact Nat.le_add_right _ _
  · show ((w.drewN k).heap ++ os)[i]? = _
    rw [Array.getElem?_append_left (by exact hi)]
    rfl
theorem dec_len (n : Nat) (hn : n ≤ 100000) : (Lib.decDigits n).length ≤ 21 := by
  rw [← Lib.itoa_nonneg]
  exact Lib.itoa_length_le _ (by omega) (by omega)
/-- two strings, one behind the other -/
theorem add_bstr (x y : List UInt8) (hx : x.length ≤ 100000) (hy : y.length ≤ 100000) (w : World) : (Op.stringOp .add (bstr x) (bstr y)).run Tryz.prog w = .ok (.string (bstr (x ++ y))) w := run_string_add_lists w x y (by omega) (by omega)
set_option maxRecDepth 100000 in
set_option maxHeartbeats 2000000 in
theorem file_any (H : BookAt w V gb vl B) (I : BInv B) (L : LShort B) (ht : Itb w) :
    Calls Tryz.prog 25 #[.pointer (some ⟨gb, 0, none⟩)] w fun e w' => e = .returned (.string (bstr (fileL B.lines))) ∧ Below w.heap.size w w' := by
  obtain ⟨gh, hV, _⟩ := H.house.hs
  have hbk := H.bk
  rw [hV] at hbk
  have HNO := Lib.hid (none_no hbk)
  obtain ⟨A, cap, rfl, _, _, hrs, _⟩ := ownS_form H.lines
  obtain ⟨n, hn⟩ : ∃ n, B.lines.length = n := ⟨_, rfl⟩
  have hn100 : n ≤ 100 := by have := I.len; omega
  rw [hn] at hrs hbk
  have HBK := Lib.hid hbk
  have c1 : w.cell? ⟨gb, 1, none⟩ = some (.slice A n cap) := hbk.at_ 1 rfl
  have HI1 := Lib.hid (itoa_any n (by omega) ht)
  have hh : (headL n).length ≤ 31 := by
    unfold headL
    have := dec_len n (by omega)
    simp only [List.length_append, List.length_cons, List.length_nil]
    omega
  have HB := Lib.hid (bodyL_len B.lines L)
  have HBT : Hid (∀ i, (bodyL (B.lines.take i)).length ≤ 4100) := fun i => by
    have h := bodyL_len (B.lines.take i) fun l hl => L l (List.mem_of_mem_take hl)
    have h2 : (B.lines.take i).length ≤ 100 := by rw [List.length_take]; omega
    omega
  have HLL : Hid (∀ l ∈ B.lines, l.size ≤ 40) := L
  have HIT := Lib.hid ht
  obtain ⟨x0, hx0⟩ : ∃ q, Lib.decDigits n = q := ⟨_, rfl⟩
  obtain ⟨x1, hx1⟩ : ∃ q, [97, 105, 103, 114, 101, 116, 116, 101, 32] ++ x0 = q := ⟨_, rfl⟩
  have hx0l : x0.length ≤ 21 := by rw [← hx0]; exact dec_len n (by omega)
  have hx1l : x1.length ≤ 30 := by
    rw [← hx1]
    simp only [List.length_append, List.length_cons, List.length_nil]
    omega
  have hadd1 : ∀ w' : World, (Op.stringOp .add ⟨#[97, 105, 103, 114, 101, 116, 116, 101, 32]⟩ (bstr x0)).run Tryz.prog w' = .ok (.string (bstr x1)) w' := fun w' => by
    rw [← hx1]
    exact add_bstr [97, 105, 103, 114, 101, 116, 116, 101, 32] x0 (by decide) (by omega) w'
  have hadd2 : ∀ w' : World, (Op.stringOp .add (bstr x1) ⟨#[10]⟩).run Tryz.prog w' = .ok (.string (bstr (headL n))) w' := fun w' => by
    rw [show headL n = x1 ++ [10] by unfold headL; rw [hx0, hx1]]
    exact add_bstr x1 [10] (by omega) (by decide) w'
  rw [hx0] at HI1
  clear hx0 hx1
  obtain ⟨LS, hLS⟩ : ∃ q, B.lines = q := ⟨_, rfl⟩
  rw [hLS] at hrs hn HB HBT HLL ⊢
  have HN := Lib.hid hn
  obtain ⟨Z, hZ⟩ : ∃ q, fileL LS = q := ⟨_, rfl⟩
  rw [hZ]
  replace hZ := Lib.hid hZ
  clear H I L ht hLS hV hn hbk
  go_enter Tryz.func25, Tryz.ntmps25
  go_wp2_with (first
    | (go_at_call 60; (with_reducible refine HNO.out.mono ?_); rintro e w3 ⟨rfl, hw3⟩; replace hw3 := hw3.symm; subst hw3)
    | (go_at_call 44; (with_reducible refine HI1.out.mono ?_); rintro e w4 ⟨rfl, hb4⟩
       have hbk4 := HBK.out.callee hb4
       have c14 : w4.cell? ⟨gb, 1, none⟩ = some (.slice A n cap) := hbk4.at_ 1 rfl))
  go_loopw [3, 21] (fun t v wr => ∃ i : Nat, i ≤ n ∧ v = .int .i64 i ∧ t = .string (bstr (headL n ++ bodyL (LS.take i))) ∧ w4 = wr) (fun _ v _ => n - (intOf v).toNat)
  case atStart => exact ⟨0, Nat.zero_le _, rfl, by rw [List.take_zero]; unfold bodyL; rw [List.map_nil, List.flatten_nil, List.append_nil], rfl⟩
  case round =>
    obtain ⟨i, hi, rfl, rfl, hw⟩ := hrel
    subst hw
    have hrs4 := hrs.later (Nat.le_refl _) hb4
    by_cases hlt : i < n
    · have hlti : (i : Int) < n := by omega
      have hi0 : (0 : Int) ≤ i := by omega
      obtain ⟨ad, l, rfl, _, hcl, hl⟩ := hrs4.at_ hlt
      have hl40 := HLL.out l (List.mem_of_getElem? hl.out)
      have hNX : Hid (bodyL (LS.take (i + 1)) = bodyL (LS.take i) ++ (byts l ++ [10])) := by
        rw [Hid, List.take_add_one, hl.out, Option.toList_some, bodyL_snoc]
      have hbt := HBT.out i
      obtain ⟨bl, hbl⟩ : ∃ q, bodyL (LS.take i) = q := ⟨_, rfl⟩
      rw [hbl] at hNX hbt ⊢
      have hbyl := byts_len l
      obtain ⟨x3, hx3⟩ : ∃ q, byts l ++ [10] = q := ⟨_, rfl⟩
      have hx3l : x3.length ≤ 41 := by rw [← hx3, List.length_append, List.length_singleton]; omega
      obtain ⟨y, hy⟩ : ∃ q, headL n ++ bl = q := ⟨_, rfl⟩
      have hyl : y.length ≤ 4131 := by rw [← hy, List.length_append]; omega
      obtain ⟨z, hz⟩ : ∃ q, y ++ x3 = q := ⟨_, rfl⟩
      have hadd3 : (Op.stringOp .add l ⟨#[10]⟩).run Tryz.prog w4 = .ok (.string (bstr x3)) w4 := by
        have h := add_bstr (byts l) [10] (by omega) (by decide) w4
        rw [bstr_byts, hx3] at h
        exact h
      have hadd4 : (Op.stringOp .add (bstr y) (bstr x3)).run Tryz.prog w4 = .ok (.string (bstr z)) w4 := by
        rw [← hz]
        exact add_bstr _ _ (by omega) (by omega) w4
      rw [hy]
      rw [hx3] at hNX
      have hNY : Hid (headL n ++ bodyL (LS.take (i + 1)) = z) := by
        rw [Hid, hNX.out, ← List.append_assoc, hy, hz]
      clear hx3 hy hz hNX
      replace hbl := Lib.hid hbl
      clear hbyl hl hadd1 hadd2
      go_wp2_with (fail)
      go_roundw
      case rel => exact ⟨i + 1, by omega, by go_num, by rw [hNY.out], trivial⟩
      case measure => simp only [intOf]; omega
    · obtain rfl : i = n := by omega
      have hlti : ¬ (i : Int) < i := by omega
      have hbt := HBT.out i
      rw [List.take_of_length_le (by have := HN.out; omega)] at hbt ⊢
      obtain ⟨o, ho⟩ : ∃ q, headL i ++ bodyL LS = q := ⟨_, rfl⟩
      have hol : o.length ≤ 4131 := by rw [← ho, List.length_append]; omega
      rw [ho]
      have hZ2 : Hid (o ++ [115, 117, 109, 32] ++ Lib.decDigits (sumB o) ++ [10] = Z) := by
        rw [← hZ.out, Hid]
        unfold fileL
        rw [HN.out, ho]
      have HSU := Lib.hid (summed_any (bstr o) (by unfold bstr ByteArray.size; simp; omega) w4)
      rw [byts_bstr] at HSU
      have hsl := sumB_lt o
      have hdl := dec_len (sumB o) (by omega)
      obtain ⟨x, hx⟩ : ∃ q, sumB o = q := ⟨_, rfl⟩
      rw [hx] at HSU hsl hdl hZ2
      have HIN := Lib.hid (fun (w' : World) (hb : Below w4.heap.size w4 w') => itoa_any x (by omega) ((HIT.out.below hb4).below hb))
      obtain ⟨x4, hx4⟩ : ∃ q, Lib.decDigits x = q := ⟨_, rfl⟩
      rw [hx4] at HIN hdl hZ2
      obtain ⟨x5, hx5⟩ : ∃ q, o ++ [115, 117, 109, 32] = q := ⟨_, rfl⟩
      obtain ⟨x6, hx6⟩ : ∃ q, x5 ++ x4 = q := ⟨_, rfl⟩
      have hx5l : x5.length ≤ 4135 := by
        rw [← hx5]
        simp only [List.length_append, List.length_cons, List.length_nil]
        omega
      have hx6l : x6.length ≤ 4156 := by rw [← hx6, List.length_append]; omega
      rw [hx5, hx6] at hZ2
      have hadd5 : ∀ w' : World, (Op.stringOp .add (bstr o) ⟨#[115, 117, 109, 32]⟩).run Tryz.prog w' = .ok (.string (bstr x5)) w' := fun w' => by
        rw [← hx5]
        exact add_bstr o [115, 117, 109, 32] (by omega) (by decide) w'
      have hadd6 : ∀ w' : World, (Op.stringOp .add (bstr x5) (bstr x4)).run Tryz.prog w' = .ok (.string (bstr x6)) w' := fun w' => by
        rw [← hx6]
        exact add_bstr _ _ (by omega) (by omega) w'
      have hadd7 : ∀ w' : World, (Op.stringOp .add (bstr x6) ⟨#[10]⟩).run Tryz.prog w' = .ok (.string (bstr Z)) w' := fun w' => by
        rw [← hZ2.out]
        exact add_bstr _ [10] (by omega) (by decide) w'
      clear hx4 hx5 hx6
      clear ho hx hadd1 hadd2 hrs
      go_wp2_with (first
        | (go_at_call 66; (with_reducible refine HSU.out.mono ?_); rintro e w5 ⟨rfl, hb5⟩)
        | (go_at_call 44; (with_reducible refine (HIN.out _ hb5).mono ?_); rintro e w6 ⟨rfl, hb6⟩))
      go_ret
      exact ⟨rfl, (hb4.trans (hb5.mono hb4.size)).trans (hb6.mono (Nat.le_trans hb4.size hb5.size))⟩
end
end Dr
end Go.Proofs.YtbgakdpbglpfaaaGreatDoor
