/- put, and the reference's replaced: a word becomes the words for its letters. -/
import Derived.Test.YtdaaiockkbolbaaRule
import Derived.Test.YtdaaiockkbolbaaBuild
import Derived.Test.YtdaaiockkbolbaaRefNext
namespace Go.Proofs.Ytdaaiockkbolbaa
open Go.RowKit
/-- the word for a letter -/
def wordOf (ws : List ByteArray) (b : UInt8) : Word := bts (ws.getD (b.toNat - 97) ⟨#[]⟩)
/-- what a word becomes -/
def putS (ws : List ByteArray) (x : Word) : Word := x.flatMap (wordOf ws)
theorem putS_snoc (ws : List ByteArray) (x : Word) (b : UInt8) : putS ws (x ++ [b]) = putS ws x ++ wordOf ws b := by simp [putS]
theorem putS_len {ws : List ByteArray} {K : Nat} (h : ∀ s ∈ ws, s.size ≤ K) (x : Word) : (putS ws x).length ≤ x.length * K := by
  induction x with
  | nil => simp [putS]
  | cons b x ih =>
    have hw : (wordOf ws b).length ≤ K := by
      unfold wordOf
      rw [bts_len, List.getD]
      cases hg : ws[b.toNat - 97]? with
      | none => exact Nat.zero_le _
      | some s => exact h s (List.mem_of_getElem? hg)
    have e : putS ws (b :: x) = wordOf ws b ++ putS ws x := by simp [putS]
    rw [e, List.length_append, List.length_cons, Nat.succ_mul]
    omega
theorem zero_bld (w : World) : (zeroValue 81).run Try.prog w = .ok (.agg #[.pointer none, .slice none 0 0]) w := by
  exact Try.zeroValue81 w
theorem u8_small {k : Nat} (h : k < 4) : IntKind.u8.wrap (k : Int) = k := by
  match k, h with
  | 0, _ => rfl
  | 1, _ => rfl
  | 2, _ => rfl
  | 3, _ => rfl
theorem i64_small {k : Nat} (h : k < 4) : IntKind.i64.wrap (k : Int) = k := by
  match k, h with
  | 0, _ => rfl
  | 1, _ => rfl
  | 2, _ => rfl
  | 3, _ => rfl
theorem letters_at {s : ByteArray} {n : Nat} (h : lettersS (bts s) (n : Int) = true) {p : Nat} {b : UInt8} (hb : (bts s)[p]? = some b) : 97 ≤ b.toNat ∧ b.toNat ≤ 96 + n := by
  have := (List.all_eq_true.1 h) b (List.mem_of_getElem? hb)
  simp only [Bool.and_eq_true, decide_eq_true_eq] at this
  omega
set_option maxRecDepth 100000 in
set_option maxHeartbeats 4000000 in
theorem put_any (A : Option Addr) (n c : Nat) (ws : List ByteArray) (s : ByteArray) (w : World) (B : Nat) (hB : B ≤ w.heap.size) (hr : RStrs w B A n ws) (hn : n ≤ 4) (hl : lettersS (bts s) (n : Int) = true) (hsz : s.size ≤ 1000000) (hws : ∀ t ∈ ws, t.size ≤ 1000) :
    Calls Try.prog 68 #[.agg #[.slice A n c], .string s] w fun e w' => e = .returned (.string ⟨(putS ws (bts s)).toArray⟩) ∧ Below w.heap.size w w' := by
  have hlH := Lib.hid hl
  have hwsH := Lib.hid hws
  have hlen := Lib.hid (fun x : Word => putS_len hws x)
  clear hl hws
  go_enter Try.func68, Try.ntmps68
  go_wp2_with (first
    | (with_reducible show wpList _ _ _ (⟨_, .box 38 _, _, _, _, _⟩ :: _) _ _
       refine wpList_box_blk rfl 38 _ rfl #[.slice A n c] rfl ?_
       intro w1 g hG hgr hge
       have hb1 : Below w.heap.size w w1 := below_none (Below.refl _ _) hgr (Nat.le_refl _)
       have hr1 := hr.later hB hb1
       have hB1 : B ≤ w1.heap.size := Nat.le_trans hB hb1.size
       clear hgr)
    | (with_reducible show wpList _ _ _ (⟨_, .alloc 81, _, _, _, _⟩ :: _) _ _
       refine wpList_alloc_blk rfl 81 rfl _ zero_bld ?_
       intro w2 b hBb hgr2 hge2
       have hb2 : Below w.heap.size w w2 := below_none hb1 hgr2 hb1.size
       have hG2 := hG.none_ hgr2
       have hgb : g < b := by have := hG.lt; omega
       have hbs : b < w2.heap.size := hBb.lt
       have hwb : w.heap.size ≤ b := by have := hb1.size; omega
       have hr2 : RStrs w2 B A n ws := hr.later hB hb2
       clear hgr2))
  go_loopw [] (fun wr => ∃ pos : Nat, pos ≤ s.size ∧ Lib.IsBuilderF 81 5 b b (Lib.byteCells (putS ws ((bts s).take pos))) wr ∧ wr.heap[w2.heap.size]? = some (.stringIter s pos) ∧ Blk wr g 38 #[.slice A n c] ∧ Below w.heap.size w wr) (fun wr => s.size - wr.iterPos w2.heap.size)
  case atStart =>
    have hBA : Lib.IsBuilderF 81 5 b b [] w2 := Lib.IsBuilderF.of (Or.inl ⟨Nat.le_refl _, _, hBb, World.ownsRow_nil _ _ _ _, by simp [Value.ownBlock]⟩)
    exact ⟨0, by omega, hBA.alloc _, by first | exact World.iter_heap w2 s 0 | simp, hG2.alloc _, hb2.alloc hb2.size _⟩
  case round =>
    obtain ⟨pos, hpos, hBF, hit, hGr, hbe⟩ := hrel
    have hitl : w2.heap.size < wr.heap.size := by
      rcases Nat.lt_or_ge w2.heap.size wr.heap.size with h | h
      · exact h
      · rw [Array.getElem?_eq_none h] at hit; cases hit
    by_cases hp : pos < s.size
    · obtain ⟨y, hy⟩ : ∃ y, s[pos]'hp = y := ⟨_, rfl⟩
      have hbt := bts_at s pos hp
      rw [hy] at hbt
      obtain ⟨hl1, hl2⟩ := letters_at hlH.out hbt
      have hbt := Lib.hid hbt
      have hnx : ∀ ty, (Instr.next (.pointer (some ⟨w2.heap.size, 0, none⟩)) true ty).run Try.prog wr = .ok (.tuple #[.bool true, .int .i64 pos, .int .i32 y.toNat]) (wr.iterAt w2.heap.size s (pos + 1)) := fun ty => by
        rw [Lib.run_next_ascii_at wr w2.heap.size s pos ty hit hp (by rw [hy]; omega), hy]
      clear hy
      have hit2 := Lib.iterAt_heap wr w2.heap.size s pos (pos + 1) hit
      have hbe2 := Lib.below_iterAt hbe (k := w2.heap.size) hb2.size s (pos + 1)
      have hBF2 := hBF.iterAt hit (pos + 1)
      have hGn : Blk (wr.iterAt w2.heap.size s (pos + 1)) g 38 #[.slice A n c] := (Lib.iterAt_other wr w2.heap.size g s (pos + 1) (by omega)).trans hGr
      have hsn : (wr.iterAt w2.heap.size s (pos + 1)).heap.size = wr.heap.size := Lib.iterAt_size _ _ _ _
      have hwn : b ≤ (wr.iterAt w2.heap.size s (pos + 1)).heap.size := by rw [hsn]; omega
      clear hsn
      generalize wr.iterAt w2.heap.size s (pos + 1) = wn at hnx hit2 hbe2 hBF2 hGn hwn
      obtain ⟨k, hk⟩ : ∃ k : Nat, (y.toNat : Int) - 97 = k := ⟨y.toNat - 97, by omega⟩
      have hkn : k < n := by omega
      have hkni : (k : Int) < n := by omega
      obtain ⟨ad, t, rfl, hadb, hcell, hwt⟩ := (hr.later hB hbe2).at_ hkn
      have cg := hGn.cell 0
      have hts := hwsH.out t (List.mem_of_getElem? hwt.out)
      have hwo := Lib.hid (show wordOf ws y = bts t by unfold wordOf; rw [show y.toNat - 97 = k by omega, List.getD, hwt.out]; rfl)
      have hpl : (Lib.byteCells (putS ws ((bts s).take pos))).length ≤ 1000000000 := by
        have := hlen.out ((bts s).take pos)
        rw [Lib.byteCells_length]
        rw [List.length_take, bts_len] at this
        have h2 : min pos s.size * 1000 ≤ 1000000 * 1000 := Nat.mul_le_mul_right _ (by omega)
        omega
      go_wp2_with (first
        | (go_at_call 84; refine (Try.Builder_WriteString_k b b _ t wn hBF2 (by omega) hwn).mono ?_; rintro e w3 ⟨rfl, hB3, hbl3, hok3⟩))
      go_roundw
      case rel =>
        refine ⟨pos + 1, by omega, Or.inr ?_, ?_, ?_, hbe2.trans (hbl3.mono hwb)⟩
        · have e : putS ws ((bts s).take (pos + 1)) = putS ws ((bts s).take pos) ++ bts t := by rw [List.take_add_one, hbt.out, Option.toList_some, putS_snoc, hwo.out]
          rw [e]
          have e2 : Lib.byteCells (putS ws ((bts s).take pos) ++ bts t) = Lib.byteCells (putS ws ((bts s).take pos)) ++ Lib.strCells t := by simp [Lib.byteCells, Lib.strCells, bts]
          rw [e2]; exact hB3
        · exact hok3 _ _ hit2 (by simp; omega) (fun c fz h => by cases h)
        · exact hok3 _ _ hGn (by simp; omega) (fun c fz h => by injection h with _ h; exact absurd h (by decide))
      case measure => 
        have hit3 := hok3 _ _ hit2 (by simp; omega) (fun c fz h => by cases h)
        simp only [World.iterPos, hit3, hit]; omega
    · have hnx : ∀ ty, (Instr.next (.pointer (some ⟨w2.heap.size, 0, none⟩)) true ty).run Try.prog wr = _ := fun ty => Lib.run_next_end_at wr w2.heap.size s pos ty hit hp
      have hft : (bts s).take pos = bts s := List.take_of_length_le (by rw [bts_len]; omega)
      rw [hft] at hBF
      clear hft
      have hwn : b ≤ wr.heap.size := by omega
      go_wp2_with (first
        | (go_at_call 58; refine (Try.Builder_String_any_k b b _ wr hBF hwn).mono ?_; rintro e w3 ⟨rfl, hB3, hbl3, hok3⟩))
      go_ret
      exact ⟨rfl, hbe.trans (hbl3.mono hwb)⟩
set_option maxRecDepth 100000 in
set_option maxHeartbeats 4000000 in
theorem replaced_any (A : Option Addr) (n c : Nat) (ws : List ByteArray) (s : ByteArray) (w : World) (B : Nat) (hB : B ≤ w.heap.size) (hr : RStrs w B A n ws) (hn : n ≤ 4) (hl : lettersS (bts s) (n : Int) = true) (hsz : s.size ≤ 1000000) (hws : ∀ t ∈ ws, t.size ≤ 1000) :
    Calls Try.prog 70 #[.agg #[.slice A n c], .string s] w fun e w' => e = .returned (.string ⟨(putS ws (bts s)).toArray⟩) ∧ Below w.heap.size w w' := by
  have hlH := Lib.hid hl
  have hwsH := Lib.hid hws
  have hlen := Lib.hid (fun x : Word => putS_len hws x)
  clear hl hws
  go_enter Try.func70, Try.ntmps70
  go_wp2_with (first
    | (with_reducible show wpList _ _ _ (⟨_, .box 40 _, _, _, _, _⟩ :: _) _ _
       refine wpList_box_blk rfl 40 _ rfl #[.slice A n c] rfl ?_
       intro w1 g hG hgr hge
       have hb1 : Below w.heap.size w w1 := below_none (Below.refl _ _) hgr (Nat.le_refl _)
       have hr1 := hr.later hB hb1
       have hB1 : B ≤ w1.heap.size := Nat.le_trans hB hb1.size
       clear hgr))
  go_loopw [5, 6] (fun o v wr => ∃ i : Nat, i ≤ s.size ∧ o = .string ⟨(putS ws ((bts s).take i)).toArray⟩ ∧ v = .int .i64 i ∧ Below w1.heap.size w1 wr) (fun _ v _ => s.size - (intOf v).toNat)
  case atStart => exact ⟨0, by omega, rfl, rfl, Below.refl _ _⟩
  case round =>
    obtain ⟨i, hi, rfl, rfl, hbe⟩ := hrel
    have cg := (hbe.cell (p := ⟨g, 0, none⟩) hG.lt).trans (hG.cell 0)
    by_cases hlt : i < s.size
    · have hlti : (i : Int) < s.size := by omega
      obtain ⟨y, hy⟩ : ∃ y, s[i]'hlt = y := ⟨_, rfl⟩
      have hbt := bts_at s i hlt
      rw [hy] at hbt
      obtain ⟨hl1, hl2⟩ := letters_at hlH.out hbt
      have hbt := Lib.hid hbt
      have hyv : Value.int .u8 (((s[i]'hlt).toNat : Nat) : Int) = Value.int .u8 ((y.toNat : Nat) : Int) := by rw [hy]
      obtain ⟨k, hk⟩ : ∃ k : Nat, (y.toNat : Int) - 97 = k := ⟨y.toNat - 97, by omega⟩
      have hkn : k < n := by omega
      have hkni : (k : Int) < n := by omega
      obtain ⟨ad, t, rfl, hadb, hcell, hwt⟩ := (hr1.later hB1 hbe).at_ hkn
      have hts := hwsH.out t (List.mem_of_getElem? hwt.out)
      have hwo := Lib.hid (show wordOf ws y = bts t by unfold wordOf; rw [show y.toNat - 97 = k by omega, List.getD, hwt.out]; rfl)
      clear hy
      have hpl := hlen.out ((bts s).take i)
      rw [List.length_take, bts_len] at hpl
      have hpl2 : min i s.size * 1000 ≤ 1000000 * 1000 := Nat.mul_le_mul_right _ (by omega)
      obtain ⟨l, hl⟩ : ∃ l, putS ws ((bts s).take i) = l := ⟨_, rfl⟩
      have hN := Lib.hid (show putS ws ((bts s).take (i + 1)) = l ++ bts t by rw [List.take_add_one, hbt.out, Option.toList_some, putS_snoc, hwo.out, hl])
      rw [hl] at hpl ⊢
      have hll : l.length ≤ 1000000000 := by omega
      have hlsz : (⟨l.toArray⟩ : ByteArray).size = l.length := rfl
      clear hl hpl hpl2
      go_wp2_with (fail)
      have hw8 := u8_small (k := k) (by omega)
      have hw64 := i64_small (k := k) (by omega)
      go_quiet (fail)
      clear hw8 hw64
      have hbq := below_drewN hbe nq
      generalize wr.drewN nq = wq at hbq ⊢
      go_wp2_with (fail)
      go_roundw
      case rel => exact ⟨i + 1, by omega, by rw [hN.out]; exact congrArg Value.string (bts_inj (by rw [bts_append]; rfl)), by go_num, hbq⟩
      case measure => simp only [intOf]; omega
    · have hlti : ¬ (i : Int) < s.size := by omega
      have hft : (bts s).take i = bts s := List.take_of_length_le (by rw [bts_len]; omega)
      rw [hft]
      clear hft
      go_wp2_with (fail)
      go_ret
      exact ⟨rfl, hb1.trans (hbe.mono hb1.size)⟩
end Go.Proofs.Ytdaaiockkbolbaa
