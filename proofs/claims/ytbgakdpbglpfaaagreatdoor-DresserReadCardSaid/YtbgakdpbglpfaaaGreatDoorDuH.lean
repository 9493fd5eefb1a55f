/- DresserRead: the file of a book is read, and gives the book; a changed file: the law, walked. -/
import Derived.Test.YtbgakdpbglpfaaaGreatDoorDrXi
import Derived.Test.YtbgakdpbglpfaaaGreatDoorJcd
import Derived.Test.YtbgakdpbglpfaaaGreatDoorDuF
import Derived.Laws.BitsAllLaws
import Derived.Deep.RegionHeld3
import Derived.IntWalk
import Derived.StillTailTactics
namespace Go.Proofs.YtbgakdpbglpfaaaGreatDoor
open Go.RowKit
namespace Dr
set_option linter.unusedSimpArgs false
theorem read_ok_file {B : Book} (R : Rep B) (I : BInv B) (L : LShort B) {w0 w : World} (T : Tabs w) (hb : Below w0.heap.size w0 w) : Calls Tryz.prog 47 #[.string (bstr (fileL B.lines))] w fun e w' => ∃ gb, e = .returned (.tuple #[.pointer (some ⟨gb, 0, none⟩), .int .i64 0]) ∧ Bk w0 w' gb B ∧ Below w.heap.size w w' := by
  have hR := read_file_of R I L
  refine (read_file T _).mono ?_
  rintro e w' (⟨h1, _⟩ | ⟨_, gb, rfl, hB⟩)
  · exact absurd (by rw [hR]) h1
  · rw [hR] at hB
    exact ⟨gb, rfl, hB.base hb, hB.below⟩
/-- a region of still operations, step by step -/
theorem still_val {P : Program} {ops : Array Oper} {w : World} {Q : Act → Prop} {a : Act} {o : Oper} {rest : List Oper} {v : Value} (hw : Region.wanted o (yielded ops a.tmps) = true) (hr : (execOp a.eval o).run P w = .ok (.value v) w)
    (h : wpStill P ops w Q rest (a.put o.dst v)) : wpStill P ops w Q (o :: rest) a := by
  unfold wpStill
  rw [if_pos hw]
  unfold Oper.still
  rw [hr, Oper.stillUpon_value]
  exact h
theorem still_not {P : Program} {ops : Array Oper} {w : World} {Q : Act → Prop} {a : Act} {o : Oper} {rest : List Oper} (hw : Region.wanted o (yielded ops a.tmps) = false)
    (h : wpStill P ops w Q rest (a.put o.dst undef)) : wpStill P ops w Q (o :: rest) a := by
  unfold wpStill
  rw [if_neg (by rw [hw]; decide)]
  exact h
/-- the bytes of a row -/
def ByC (w : World) (g : Nat) (l : List UInt8) : Prop := g < w.heap.size ∧ ∀ j (hj : j < l.length), w.cell? ⟨g, j, none⟩ = some (.int .u8 (l[j].toNat : Int)) ∧ w.frozen? ⟨g, j, none⟩ = false
theorem byC_new (w : World) (e : TypeId) (s : ByteArray) : ByC (Lib.bytesWorld w e s) w.heap.size (byts s) := by
  refine ⟨by rw [Lib.bytesWorld_size]; omega, fun j hj => ⟨?_, ?_⟩⟩
  · have hj2 : j < s.size := by rw [← byts_len]; exact hj
    rw [Lib.bytesWorld_cell w e s j hj2, List.getD_eq_getElem?_getD, show s.data.toList = byts s from rfl, List.getElem?_eq_getElem hj]
    rfl
  · have hj2 : j < s.size := by rw [← byts_len]; exact hj
    have hsz : j < (Lib.bytesCells w e s).size := by
      unfold Lib.bytesCells
      rw [Array.size_append, Array.size_map]
      exact Nat.lt_of_lt_of_le hj2 (Nat.le_add_right _ _)
    unfold World.frozen?
    rw [Lib.bytesWorld_at_new]
    simp
    omega
theorem below_bytes (B : Nat) (w : World) (e : TypeId) (s : ByteArray) (h : B ≤ w.heap.size) : Below B w (Lib.bytesWorld w e s) :=
  ⟨rfl, rfl, rfl, by rw [Lib.bytesWorld_size]; omega, fun j hj => Lib.bytesWorld_at_old w e s j (Nat.lt_of_lt_of_le hj h)⟩
theorem ByC.below {w w' : World} {g : Nat} {l : List UInt8} (h : ByC w g l) (hb : Below w.heap.size w w') : ByC w' g l :=
  ⟨Nat.lt_of_lt_of_le h.1 hb.size, fun j hj => ⟨(hb.cell (p := ⟨g, j, none⟩) h.1).trans (h.2 j hj).1, (hb.frozen (p := ⟨g, j, none⟩) h.1).trans (h.2 j hj).2⟩⟩
theorem ByC.set {w : World} {g k : Nat} {l : List UInt8} (h : ByC w g l) (hk : k < l.length) (b : UInt8) : ByC (w.setCell ⟨g, k, none⟩ (.int .u8 (b.toNat : Int))) g (l.set k b) := by
  refine ⟨by rw [World.size_setCell]; exact h.1, fun j hj => ?_⟩
  rw [List.length_set] at hj
  refine ⟨?_, by rw [World.frozen?_setCell]; exact (h.2 j hj).2⟩
  rw [List.getElem_set]
  by_cases e : k = j
  · subst e
    rw [if_pos rfl, World.cell?_setCell_same w _ _ (h.2 k hk).1]
  · rw [if_neg e, World.cell?_setCell_other w _ _ _ (fun c => e (by injection c))]
    exact (h.2 j hj).1
theorem ByC.str {w : World} {g c n : Nat} {l : List UInt8} (h : ByC w g l) (hn : l.length = n) : (convert 71 9 (.slice (some ⟨g, 0, none⟩) n c)).run Tryz.prog w = .ok (.string (bstr l)) w := by
  subst hn
  exact run_convert_bytes_back w _ _ 5 ⟨g, 0, none⟩ c l Tryz.underlying71 Tryz.underlying5 Tryz.underlying9 fun j hj => by
    rw [show (⟨g, 0, none⟩ : Addr).add j = ⟨g, j, none⟩ by unfold Addr.add; split <;> simp_all]
    exact (h.2 j hj).1
theorem read_two {fk : ByteArray} {E : Int} (hE : (readF fk).1 = E) {w : World} (T : Tabs w) (w' : World) (hb : Below w.heap.size w w') : Calls Tryz.prog 47 #[.string fk] w' fun e w'' =>
    ∃ pv, e = .returned (.tuple #[pv, .int .i64 E]) ∧ Below w'.heap.size w' w'' ∧ ((E ≠ 0 ∧ pv = .pointer none) ∨ (E = 0 ∧ ∃ gp Q, pv = .pointer (some ⟨gp, 0, none⟩) ∧ Bk w w'' gp Q ∧ bstr (fileL Q.lines) = fk)) := by
  refine (read_file (T.below hb) fk).mono ?_
  rintro e w'' (⟨h1, rfl, h2⟩ | ⟨h1, gp, rfl, h2⟩)
  · rw [hE] at h1 ⊢
    exact ⟨_, rfl, h2, Or.inl ⟨h1, rfl⟩⟩
  · have h0 : E = 0 := by rw [← hE, h1]
    subst h0
    exact ⟨_, rfl, h2.below, Or.inr ⟨rfl, gp, _, rfl, h2.base hb, read_back (Prod.ext h1 rfl)⟩⟩
section
variable {w : World}
set_option maxRecDepth 100000 in
set_option maxHeartbeats 40000000 in
theorem read_law (P : Option Addr) (n c : Nat) (qs : List Quad) (xa xb : Nat) (swap : Bool) (w : World) (T : Tabs w) (hq : RQuads w w.heap.size P n qs) (hn : n ≤ maxLen) (la : xa < 65536) (lb : xb < 256) :
    Calls Tryz.prog 9 #[.slice P n c, .int .u16 (xa : Int), .int .u8 (xb : Int), .bool swap] w fun e w' => e = .returned (.bool true) ∧ Below w.heap.size w w' := by
  have HT := Lib.hid T
  have HWO := Lib.hid (fun (w' : World) (hb : Below w.heap.size w w') => works_any w' (T.below hb))
  have HQ := Lib.hid hq
  have HN := Lib.hid hn
  obtain ⟨l1, hl1⟩ : ∃ q, seasonL false qs = q := ⟨_, rfl⟩
  have h30 : Hid (l1.length ≤ 1000) := by rw [Hid, ← hl1]; exact Nat.le_trans (season_le _ _) (by decide)
  have HL1 := Lib.hid hl1
  obtain ⟨B, hB⟩ : ∃ q, bookP l1 = q := ⟨_, rfl⟩
  have HR : Hid (Rep B) := by rw [Hid, ← hB]; exact Rep.bookP _
  have HBB := Lib.hid hB
  clear T hq hn hl1 hB
  go_enter Tryz.func9, Tryz.ntmps9
  go_upto_region 2 with (first
    | (go_at_call 37; (with_reducible refine (season_any HT.out P n c qs HQ.out HN.out false).mono ?_)
       rintro e w1 ⟨v1, rfl, hO1, _, hb1⟩
       rw [HL1.out] at hO1
       obtain ⟨P1, c1, rfl, hr1⟩ := OwnS.reads hO1
       obtain ⟨n1, hn1⟩ : ∃ q, l1.length = q := ⟨_, rfl⟩
       rw [hn1]
       rw [hn1] at hr1
       have HN1 : Hid (n1 ≤ 1000) := by rw [Hid, ← hn1]; exact h30.out
       have HR1 := Lib.hid hr1
       have HB1 := Lib.hid hb1
       clear hO1 hr1 hb1 hn1)
    | (go_at_call 36; (with_reducible refine (book_any (HT.out.below HB1.out) P1 n1 c1 l1 HN1.out HR1.out).mono ?_)
       rintro e w2 ⟨gb, rfl, hB2⟩
       rw [HBB.out] at hB2
       have HB2 := Lib.hid (hB2.base HB1.out)
       clear hB2))
  have L := HB2.out.short
  obtain ⟨LS, hLS⟩ : ∃ q, B.lines = q := ⟨_, rfl⟩
  unfold LShort at L
  rw [hLS] at L
  obtain ⟨nb, hnb⟩ : ∃ q, LS.length = q := ⟨_, rfl⟩
  have hn100 : nb ≤ 100 := by have := HB2.out.inv.len; rw [hLS] at this; omega
  have hh : (headL nb).length ≤ 31 := by
    unfold headL
    have := dec_len nb (by omega)
    simp only [List.length_append, List.length_cons, List.length_nil]
    omega
  have HBO := Lib.hid (bodyL_len LS L)
  have HBT : Hid (∀ i, (bodyL (LS.take i)).length ≤ 4100) := fun i => by
    have h := bodyL_len (LS.take i) fun l hl => L l (List.mem_of_mem_take hl)
    have h2 : (LS.take i).length ≤ 100 := by rw [List.length_take]; omega
    omega
  have HLL : Hid (∀ l ∈ LS, l.size ≤ 40) := L
  have HIB := Lib.hid (fun (w' : World) (hb : Below w.heap.size w w') => itoa_any nb (by omega) (HT.out.below hb).2)
  obtain ⟨x0, hx0⟩ : ∃ q, Lib.decDigits nb = q := ⟨_, rfl⟩
  obtain ⟨x1, hx1⟩ : ∃ q, [97, 105, 103, 114, 101, 116, 116, 101, 32] ++ x0 = q := ⟨_, rfl⟩
  have hx0l : x0.length ≤ 21 := by rw [← hx0]; exact dec_len nb (by omega)
  have hx1l : x1.length ≤ 30 := by
    rw [← hx1]
    simp only [List.length_append, List.length_cons, List.length_nil]
    omega
  have hadd1 : ∀ w' : World, (Op.stringOp .add ⟨#[97, 105, 103, 114, 101, 116, 116, 101, 32]⟩ (bstr x0)).run Tryz.prog w' = .ok (.string (bstr x1)) w' := fun w' => by
    rw [← hx1]
    exact add_bstr [97, 105, 103, 114, 101, 116, 116, 101, 32] x0 (by decide) (by omega) w'
  have hadd2 : ∀ w' : World, (Op.stringOp .add (bstr x1) ⟨#[10]⟩).run Tryz.prog w' = .ok (.string (bstr (headL nb))) w' := fun w' => by
    rw [show headL nb = x1 ++ [10] by unfold headL; rw [hx0, hx1]]
    exact add_bstr x1 [10] (by omega) (by decide) w'
  rw [hx0] at HIB
  have HNB := Lib.hid hnb
  have HLS := Lib.hid hLS
  clear hx0 hx1 hLS hnb L
  go_wp2_with (first
    | (go_at_call 23; (with_reducible refine (bk_lines HB2.out HLS.out).mono ?_)
       rintro e w3 ⟨v3, rfl, hO3, hB3, _⟩
       obtain ⟨P3, c3, rfl, _⟩ := ownS_form hO3
       rw [HNB.out]
       have HB3 := Lib.hid hB3
       clear hO3 hB3 HB2)
    | (go_at_call 44; (with_reducible refine (HIB.out _ HB3.out.below).mono ?_); rintro e w4 ⟨rfl, hb4⟩
       have HB4 := Lib.hid (HB3.out.callee hb4)
       clear hb4 HB3)
    | (go_at_call 23; (with_reducible refine (bk_lines HB4.out HLS.out).mono ?_)
       rintro e w5 ⟨v5, rfl, hO5, hB5, _⟩
       obtain ⟨P5, c5, rfl, _⟩ := ownS_form hO5
       rw [HNB.out]
       rw [HNB.out] at hO5
       have HO5 := Lib.hid hO5
       have HB5 := Lib.hid hB5
       clear hO5 hB5 HB4))
  go_loopw [10, 35] (fun t v wr => ∃ i : Nat, i ≤ nb ∧ v = .int .i64 i ∧ t = .string (bstr (headL nb ++ bodyL (LS.take i))) ∧ w5 = wr) (fun _ v _ => nb - (intOf v).toNat)
  case atStart => exact ⟨0, Nat.zero_le _, rfl, by rw [List.take_zero]; unfold bodyL; rw [List.map_nil, List.flatten_nil, List.append_nil], rfl⟩
  case round =>
    obtain ⟨i, hi, rfl, rfl, hw⟩ := hrel
    subst hw
    by_cases hlt : i < nb
    · have hlti : (i : Int) < nb := by omega
      have hi0 : (0 : Int) ≤ i := by omega
      obtain ⟨l, hl⟩ : ∃ l, LS[i]? = some l := ⟨_, List.getElem?_eq_getElem (by rw [HNB.out]; exact hlt)⟩
      obtain ⟨g, cc, hv, _, hcl⟩ := ownT_cell HO5.out hl
      injection hv with hv1 hv2 hv3
      subst hv1
      have hl40 := HLL.out l (List.mem_of_getElem? hl)
      have hNX : Hid (bodyL (LS.take (i + 1)) = bodyL (LS.take i) ++ (byts l ++ [10])) := by
        rw [Hid, List.take_add_one, hl, Option.toList_some, bodyL_snoc]
      have hbt := HBT.out i
      obtain ⟨bl, hbl⟩ : ∃ q, bodyL (LS.take i) = q := ⟨_, rfl⟩
      rw [hbl] at hNX hbt ⊢
      have hbyl := byts_len l
      obtain ⟨x3, hx3⟩ : ∃ q, byts l ++ [10] = q := ⟨_, rfl⟩
      have hx3l : x3.length ≤ 41 := by rw [← hx3, List.length_append, List.length_singleton]; omega
      obtain ⟨y, hy⟩ : ∃ q, headL nb ++ bl = q := ⟨_, rfl⟩
      have hyl : y.length ≤ 4131 := by rw [← hy, List.length_append]; omega
      obtain ⟨z, hz⟩ : ∃ q, y ++ x3 = q := ⟨_, rfl⟩
      have hadd3 : (Op.stringOp .add l ⟨#[10]⟩).run Tryz.prog w5 = .ok (.string (bstr x3)) w5 := by
        have h := add_bstr (byts l) [10] (by omega) (by decide) w5
        rw [bstr_byts, hx3] at h
        exact h
      have hadd4 : (Op.stringOp .add (bstr y) (bstr x3)).run Tryz.prog w5 = .ok (.string (bstr z)) w5 := by
        rw [← hz]
        exact add_bstr _ _ (by omega) (by omega) w5
      rw [hy]
      rw [hx3] at hNX
      have hNY : Hid (headL nb ++ bodyL (LS.take (i + 1)) = z) := by
        rw [Hid, hNX.out, ← List.append_assoc, hy, hz]
      clear hx3 hy hz hNX hv2 hv3
      replace hbl := Lib.hid hbl
      clear hbyl hl hadd1 hadd2
      go_wp2_with (fail)
      go_roundw
      case rel => exact ⟨i + 1, by omega, by go_num, by rw [hNY.out], trivial⟩
      case measure => simp only [intOf]; omega
    · obtain rfl : i = nb := by omega
      have hlti : ¬ (i : Int) < i := by omega
      have hbt := HBT.out i
      rw [List.take_of_length_le (by have := HNB.out; omega)] at hbt ⊢
      obtain ⟨o, ho⟩ : ∃ q, headL i ++ bodyL LS = q := ⟨_, rfl⟩
      have hol : o.length ≤ 4131 := by rw [← ho, List.length_append]; omega
      rw [ho]
      obtain ⟨Z, hZ⟩ : ∃ q, fileL LS = q := ⟨_, rfl⟩
      have hZ2 : Hid (o ++ [115, 117, 109, 32] ++ Lib.decDigits (sumB o) ++ [10] = Z) := by
        rw [← hZ, Hid]
        unfold fileL
        rw [HNB.out, ho]
      have HZ := Lib.hid hZ
      obtain ⟨so, hso⟩ : ∃ q, bstr o = q := ⟨_, rfl⟩
      have hsb : byts so = o := by rw [← hso]; rfl
      obtain ⟨no, hno⟩ : ∃ q, so.size = q := ⟨_, rfl⟩
      have hnol : no ≤ 4131 := by rw [← hno, ← byts_len, hsb]; exact hol
      rw [hso]
      have HSB := Lib.hid hsb
      have HSO := Lib.hid hso
      clear ho hZ hsb hso hadd1 hadd2
      go_wp2_with (fail)
      go_loopw [13, 46] (fun t v wr => ∃ i : Nat, i ≤ no ∧ v = .int .i64 i ∧ t = .int .i64 (sumB (o.take i) : Int) ∧ w5 = wr) (fun _ v _ => no - (intOf v).toNat)
      case atStart => exact ⟨0, Nat.zero_le _, rfl, rfl, rfl⟩
      case round =>
        obtain ⟨j, hj, rfl, rfl, hw⟩ := hrel
        subst hw
        by_cases hlt2 : j < no
        · have hltj : (j : Int) < no := by omega
          have hj0 : (0 : Int) ≤ j := by omega
          have hjs : (j : Int) < so.size := by omega
          have hjl : j < o.length := by rw [← HSB.out, byts_len, hno]; exact hlt2
          obtain ⟨b, hbo⟩ : ∃ q, o[j]? = some q := ⟨_, List.getElem?_eq_getElem hjl⟩
          have hNX : Hid (sumB (o.take (j + 1)) = (23 * sumB (o.take j) + b.toNat) % 9901) := by
            rw [Hid, List.take_add_one, hbo, Option.toList_some, sumB_snoc]
          have hlt0 := sumB_lt (o.take j)
          obtain ⟨x, hx⟩ : ∃ q, sumB (o.take j) = q := ⟨_, rfl⟩
          rw [hx] at hNX hlt0 ⊢
          obtain ⟨y, hy⟩ : ∃ q, b.toNat = q := ⟨_, rfl⟩
          have hy2 : y < 256 := by rw [← hy]; exact b.toNat_lt
          rw [hy] at hNX
          have hjs2 : j < so.size := by rw [hno]; exact hlt2
          have hge : (so[j]'hjs2).toNat = y := by
            have h := byts_at hjs2
            rw [HSB.out, hbo] at h
            rw [← hy, Option.some.inj h]
          clear hx hjl hbo hy
          go_wp2_with (fail)
          go_roundw
          case rel => exact ⟨j + 1, by omega, by go_num, by rw [hNX.out]; push_cast; rfl, trivial⟩
          case measure => simp only [intOf]; omega
        · obtain rfl : j = no := by omega
          have hltj : ¬ (j : Int) < j := by omega
          rw [List.take_of_length_le (by rw [← HSB.out, byts_len, hno]; exact Nat.le_refl _)]
          have hsl := sumB_lt o
          have hdl := dec_len (sumB o) (by omega)
          obtain ⟨x, hx⟩ : ∃ q, sumB o = q := ⟨_, rfl⟩
          rw [hx] at hsl hdl hZ2 ⊢
          have HIN := Lib.hid (fun (w' : World) (hb : Below w.heap.size w w') => itoa_any x (by omega) (HT.out.below hb).2)
          obtain ⟨x4, hx4⟩ : ∃ q, Lib.decDigits x = q := ⟨_, rfl⟩
          rw [hx4] at HIN hdl hZ2
          obtain ⟨x5, hx5⟩ : ∃ q, o ++ [115, 117, 109, 32] = q := ⟨_, rfl⟩
          obtain ⟨x6, hx6⟩ : ∃ q, x5 ++ x4 = q := ⟨_, rfl⟩
          have hx5l : x5.length ≤ 4135 := by
            rw [← hx5]
            simp only [List.length_append, List.length_cons, List.length_nil]
            omega
          have hx6l : x6.length ≤ 4156 := by rw [← hx6, List.length_append]; omega
          rw [hx5, hx6] at hZ2
          obtain ⟨f, hf⟩ : ∃ q, bstr Z = q := ⟨_, rfl⟩
          have hadd5 : ∀ w' : World, (Op.stringOp .add so ⟨#[115, 117, 109, 32]⟩).run Tryz.prog w' = .ok (.string (bstr x5)) w' := fun w' => by
            rw [← hx5, ← HSO.out]
            exact add_bstr o [115, 117, 109, 32] (by omega) (by decide) w'
          have hadd6 : ∀ w' : World, (Op.stringOp .add (bstr x5) (bstr x4)).run Tryz.prog w' = .ok (.string (bstr x6)) w' := fun w' => by
            rw [← hx6]
            exact add_bstr _ _ (by omega) (by omega) w'
          have hadd7 : ∀ w' : World, (Op.stringOp .add (bstr x6) ⟨#[10]⟩).run Tryz.prog w' = .ok (.string f) w' := fun w' => by
            rw [← hf, ← hZ2.out]
            exact add_bstr _ [10] (by omega) (by decide) w'
          have HFI : Hid (bstr (fileL B.lines) = f) := by rw [Hid, HLS.out, HZ.out, hf]
          have hfz : f.size = Z.length := by rw [← hf]; unfold bstr ByteArray.size; simp
          have hfl : f.size ≤ 4157 ∧ 1 ≤ f.size := by
            rw [hfz, ← hZ2.out, List.length_append, List.length_singleton]
            omega
          have hRO := fun (w' : World) (hb : Below w.heap.size w w') => read_ok_file HR.out HB5.out.inv HB5.out.short (HT.out.below hb) hb
          rw [HFI.out] at hRO
          have HRO := Lib.hid hRO
          have hfe : (f.toList == f.toList) = true := by rw [str_eq]; exact decide_eq_true rfl
          obtain ⟨nf, hnf⟩ : ∃ q, f.size = q := ⟨_, rfl⟩
          rw [hnf] at hfl
          have HNF := Lib.hid hnf
          clear hx4 hx5 hx6 hx hf hfz hRO hlt hlt2
          go_upto_region 18 with (first
            | (go_at_call 25; (with_reducible refine (bk_file HT.out HB5.out HFI.out).mono ?_); rintro e w6 ⟨rfl, hB6, _⟩; have HB6 := Lib.hid hB6; clear hB6 HB5)
            | (go_at_call 47; (with_reducible refine (HRO.out _ HB6.out.below).mono ?_); rintro e w7 ⟨go, rfl, hG7, hb7⟩; have HG7 := Lib.hid hG7; have HB7 := Lib.hid (HB6.out.callee hb7); clear hG7 hb7 HB6)
            | (go_at_call 44; (with_reducible refine (HIN.out _ HB7.out.below).mono ?_); rintro e w8 ⟨rfl, hb8⟩; have HG8 := Lib.hid (HG7.out.callee hb8); have HB8 := Lib.hid (HB7.out.callee hb8); clear hb8 HB7 HG7)
            | (go_at_call 38; (with_reducible refine (alike_books HT.out HB8.out HG8.out).mono ?_); rintro e w9 ⟨rfl, hb9⟩; have HW9 := Lib.hid (HB8.out.callee hb9).below; clear hb9 HB8 HG8))
          obtain ⟨kk, hkk⟩ : ∃ q, xa % nf = q := ⟨_, rfl⟩
          have hkl : kk < nf := by rw [← hkk]; exact Nat.mod_lt _ (by omega)
          have ek : Int.tmod (xa : Int) (nf : Int) = (kk : Int) := by rw [← hkk]; exact (Int.ofNat_tmod xa nf).symm
          have hne : (nf : Int) ≠ 0 := by omega
          have m1 : (0 : Int) ≤ xa := by omega
          have m2 : (xa : Int) < 65536 := by omega
          have hk0 : (0 : Int) ≤ kk := by omega
          have hk1 : (kk : Int) ≤ nf := by omega
          have hk2 : (kk : Int) < nf := by omega
          obtain ⟨fk, hfk⟩ : ∃ q, f.extract 0 kk = q := ⟨_, rfl⟩
          obtain ⟨E, hE⟩ : ∃ q, (readF fk).1 = q := ⟨_, rfl⟩
          have HR1 : Hid (∀ w', Below w.heap.size w w' → Calls Tryz.prog 47 #[.string fk] w' fun e w'' => ∃ pv, e = .returned (.tuple #[pv, .int .i64 E]) ∧ Below w'.heap.size w' w'' ∧ ((E ≠ 0 ∧ pv = .pointer none) ∨ (E = 0 ∧ ∃ gp Q, pv = .pointer (some ⟨gp, 0, none⟩) ∧ Bk w w'' gp Q ∧ bstr (fileL Q.lines) = fk))) := read_two hE HT.out
          have hfke : (fk.toList == fk.toList) = true := by rw [str_eq]; exact decide_eq_true rfl
          clear hkk hE
          go_upto_region 20 with (first
            | (go_at_call 47; (with_reducible refine (HR1.out _ HW9.out).mono ?_); rintro e w10 ⟨pv, rfl, hb10, hc10⟩; have HW10 := Lib.hid (HW9.out.trans (hb10.mono HW9.out.size)); have HC10 := Lib.hid hc10; clear hb10 hc10))
          go_cut [108] from 95 to 108 (fun v wx => v = .bool false ∧ Below w.heap.size w wx)
          case first =>
            rcases HC10.out with ⟨hE0, hpv⟩ | ⟨hE0, gp, Q, hpv, hBQ, hQf⟩
            · subst hpv
              have hE1 : (E == 0) = false := by simpa using hE0
              clear hE0
              go_quiet (fail)
              go_wp2_with (fail)
              go_meet
              exact ⟨rfl, below_drewN HW10.out _⟩
            · subst hpv hE0
              have HBQ := Lib.hid hBQ
              have HQF := Lib.hid hQf
              clear hBQ hQf HC10 HR1
              have HBD : Hid (Bk w w10.drew gp Q) := HBQ.out.callee (Below.refl _ _).drew
              have hS0 : True := trivial
              go_region_held3 (fun _ => True) (exact trivial)
                (first
                  | (go_at_call 25; refine (bk_file HT.out HBD.out HQF.out).mono ?_; rintro e w11 ⟨rfl, hB11, _⟩
                     have HW11 := Lib.hid hB11.below
                     have hS1 : True := trivial))
              go_wp2_with (fail)
              go_meet
              exact ⟨rfl, HW11.out⟩
          case rest =>
            obtain ⟨rfl, hbc⟩ := hcut
            have HBC := Lib.hid hbc
            clear hbc HC10 HR1 HRO hadd5 hadd6 hadd7
            have hcv := Lib.run_convert_string_bytes (P := Tryz.prog) wc 9 71 5 f Tryz.underlying9 Tryz.underlying71 Tryz.underlying5
            obtain ⟨cc, hcc⟩ : ∃ q, grownCap wc f.size 0 5 = q := ⟨_, rfl⟩
            have hby := byC_new wc 5 f
            have hbb := below_bytes w.heap.size wc 5 f HBC.out.size
            obtain ⟨wg, hwg⟩ : ∃ q, Lib.bytesWorld wc 5 f = q := ⟨_, rfl⟩
            obtain ⟨g, hg⟩ : ∃ q, wc.heap.size = q := ⟨_, rfl⟩
            have hgw : w.heap.size ≤ g := by rw [← hg]; exact HBC.out.size
            rw [hwg, hg] at hby
            rw [hwg] at hbb
            rw [hwg, hcc, hg, hnf] at hcv
            obtain ⟨l, hl⟩ : ∃ q, byts f = q := ⟨_, rfl⟩
            have hll : l.length = nf := by rw [← hl, byts_len, hnf]
            rw [hl] at hby
            have HBY := Lib.hid hby
            have HBG := Lib.hid (HBC.out.trans hbb)
            have hlk : kk < l.length := by omega
            have ck := (hby.2 kk hlk).1
            have cf := (hby.2 kk hlk).2
            obtain ⟨bk, hbk⟩ : ∃ q, l[kk] = q := ⟨_, rfl⟩
            obtain ⟨y, hy⟩ : ∃ q, bk.toNat = q := ⟨_, rfl⟩
            have hy2 : y < 256 := by rw [← hy]; exact bk.toNat_lt
            rw [hbk, hy] at ck
            have HLl := Lib.hid hll
            have HLF := Lib.hid hl
            clear hcc hby hbb hwg hg hl hll hbk hy hlk
            obtain ⟨m, hm⟩ : ∃ q, xb % 127 = q := ⟨_, rfl⟩
            have em : Int.tmod (xb : Int) 127 = (m : Int) := by rw [← hm]; exact (Int.ofNat_tmod xb 127).symm
            obtain ⟨q, hq⟩ : ∃ q, 1 + m = q := ⟨_, rfl⟩
            have eq1 : (1 : Int) + (m : Int) = (q : Int) := by omega
            have hq2 : q < 256 := by omega
            have n1 : (0 : Int) ≤ xb := by omega
            have n2 : (xb : Int) < 256 := by omega
            obtain ⟨z, hz⟩ : ∃ z, y ^^^ q = z := ⟨_, rfl⟩
            have hz2 : z < 256 := by rw [← hz]; exact Nat.xor_lt_two_pow (n := 8) hy2 hq2
            have exz : bits .xor .u8 (y : Int) (q : Int) = (z : Int) := by rw [← hz]; exact u8_xor_nat y q hy2 hq2
            obtain ⟨zb, hzb⟩ : ∃ zb : UInt8, zb.toNat = z := ⟨UInt8.ofNat z, by rw [UInt8.toNat_ofNat']; omega⟩
            clear hm hq hz
            go_upto_region 24 with (fail)
            have HY1 : Hid (ByC (wg.setCell ⟨g, kk, none⟩ (.int .u8 (z : Int))) g (l.set kk zb)) := by
              rw [Hid, ← hzb]
              exact HBY.out.set (by have := HLl.out; omega) zb
            have HWg : Hid (Below w.heap.size w (wg.setCell ⟨g, kk, none⟩ (.int .u8 (z : Int)))) := HBG.out.setCell hgw _
            obtain ⟨wt, hwt⟩ : ∃ q, wg.setCell ⟨g, kk, none⟩ (.int .u8 (z : Int)) = q := ⟨_, rfl⟩
            rw [hwt] at HY1 HWg
            rw [hwt]
            clear hwt ck cf hcv
            by_cases hsw : swap = true ∧ kk + 1 < nf
            · obtain ⟨rfl, hk3⟩ := hsw
              have hk4 : (kk : Int) + 1 < (nf : Int) := by omega
              have hcv2 := Lib.run_convert_string_bytes (P := Tryz.prog) wt 9 71 5 f Tryz.underlying9 Tryz.underlying71 Tryz.underlying5
              obtain ⟨ct, hcc2⟩ : ∃ q, grownCap wt f.size 0 5 = q := ⟨_, rfl⟩
              have hby2 := byC_new wt 5 f
              have hbb2 := below_bytes w.heap.size wt 5 f HWg.out.size
              obtain ⟨wh, hwh⟩ : ∃ q, Lib.bytesWorld wt 5 f = q := ⟨_, rfl⟩
              obtain ⟨gt, hg2⟩ : ∃ q, wt.heap.size = q := ⟨_, rfl⟩
              have hgw2 : w.heap.size ≤ gt := by rw [← hg2]; exact HWg.out.size
              rw [hwh, hg2] at hby2
              rw [hwh] at hbb2
              rw [hwh, hcc2, hg2, hnf] at hcv2
              rw [HLF.out] at hby2
              have HBY2 := Lib.hid (hby2.below (Below.refl _ _).drew)
              have HBG2 := Lib.hid ((HWg.out.trans hbb2).drew)
              obtain ⟨k1, hk1'⟩ : ∃ q, kk + 1 = q := ⟨_, rfl⟩
              have hwk : IntKind.i64.wrap (k1 : Int) = (k1 : Int) := IntWalk.i64_in _ (by omega)
              have hwk2 : (kk : Int) + 1 = (k1 : Int) := by omega
              have i0 : kk < f.size := by omega
              have i1 : k1 < f.size := by omega
              obtain ⟨b0, hb0⟩ : ∃ q, f[kk]'i0 = q := ⟨_, rfl⟩
              obtain ⟨b1, hb1⟩ : ∃ q, f[k1]'i1 = q := ⟨_, rfl⟩
              have j0 : (0 : Int) ≤ k1 := by omega
              have j1 : (k1 : Int) < nf := by omega
              have hll := HLl.out
              have d0 := (hby2.2 kk (by omega)).1
              have d1 := (hby2.2 kk (by omega)).2
              have HS1 := Lib.hid (HBY2.out.set (k := kk) (by omega) b1)
              have HS2 := Lib.hid (HS1.out.set (k := k1) (by rw [List.length_set]; omega) b0)
              have HG2 := Lib.hid ((HBG2.out.setCell (p := ⟨gt, kk, none⟩) hgw2 (.int .u8 (b1.toNat : Int))).setCell (p := ⟨gt, k1, none⟩) hgw2 (.int .u8 (b0.toNat : Int)))
              have d2 := (hby2.2 k1 (by omega)).1
              have d3 := (hby2.2 k1 (by omega)).2
              have HLt : Hid (((l.set kk b1).set k1 b0).length = nf) := by rw [Hid, List.length_set, List.length_set]; exact hll
              clear hby2 hbb2 hcc2 hwh hg2
              go_upto_region 26 with (fail)
              refine De.region_tree (fun b w' => bif b then (True) else (True ∧ True)) 15 2 (by kernel_rfl) (by kernel_rfl) (by decide) ⟨trivial, trivial⟩ ?_
              (try simp only [Act.put, De.l0, De.l1, De.l2])
              refine De.MidT.read2 (o := ?o1) (v := ?v1) 0 (by decide) ?q1 (by kernel_rfl) (by kernel_rfl) ?w1 ?y1 ?h1
              case q1 => (simp only [De.g0, De.g1, De.g2]; rfl)
              case w1 => kernel_rfl
              case y1 => (intro b w' hw'; clear hw'; go_simp; (try with_reducible rfl))
              (try simp only [Act.put, De.l0, De.l1, De.l2])
              refine De.MidT.read2 (o := ?o2) (v := ?v2) 1 (by decide) ?q2 (by kernel_rfl) (by kernel_rfl) ?w2 ?y2 ?h2
              case q2 => (simp only [De.g0, De.g1, De.g2]; rfl)
              case w2 => kernel_rfl
              case y2 => (intro b w' hw'; clear hw'; go_simp; (try with_reducible rfl))
              (try simp only [Act.put, De.l0, De.l1, De.l2])
              refine De.MidT.read2 (o := ?o3) (v := ?v3) 2 (by decide) ?q3 (by kernel_rfl) (by kernel_rfl) ?w3 ?y3 ?h3
              case q3 => (simp only [De.g0, De.g1, De.g2]; rfl)
              case w3 => kernel_rfl
              case y3 => (intro b w' hw'; clear hw'; go_simp; (try with_reducible rfl))
              (try simp only [Act.put, De.l0, De.l1, De.l2])
              refine De.MidT.read2 (o := ?o4) (v := ?v4) 3 (by decide) ?q4 (by kernel_rfl) (by kernel_rfl) ?w4 ?y4 ?h4
              case q4 => (simp only [De.g0, De.g1, De.g2]; rfl)
              case w4 => kernel_rfl
              case y4 => (intro b w' hw'; clear hw'; go_simp; (try with_reducible rfl))
              (try simp only [Act.put, De.l0, De.l1, De.l2])
              refine De.MidT.read2 (o := ?o5) (v := ?v5) 4 (by decide) ?q5 (by kernel_rfl) (by kernel_rfl) ?w5 ?y5 ?h5
              case q5 => (simp only [De.g0, De.g1, De.g2]; rfl)
              case w5 => kernel_rfl
              case y5 => (intro b w' hw'; clear hw'; go_simp; (try with_reducible rfl))
              (try simp only [Act.put, De.l0, De.l1, De.l2])
              refine De.MidT.read2 (o := ?o6) (v := ?v6) 5 (by decide) ?q6 (by kernel_rfl) (by kernel_rfl) ?w6 ?y6 ?h6
              case q6 => (simp only [De.g0, De.g1, De.g2]; rfl)
              case w6 => kernel_rfl
              case y6 => (intro b w' hw'; clear hw'; go_simp; (try with_reducible rfl))
              (try simp only [Act.put, De.l0, De.l1, De.l2])
              refine De.MidT.read2 (o := ?o7) (v := ?v7) 6 (by decide) ?q7 (by kernel_rfl) (by kernel_rfl) ?w7 ?y7 ?h7
              case q7 => (simp only [De.g0, De.g1, De.g2]; rfl)
              case w7 => kernel_rfl
              case y7 => (intro b w' hw'; clear hw'; go_simp; (try with_reducible rfl))
              (try simp only [Act.put, De.l0, De.l1, De.l2])
              refine De.MidT.read2 (o := ?o8) (v := ?v8) 7 (by decide) ?q8 (by kernel_rfl) (by kernel_rfl) ?w8 ?y8 ?h8
              case q8 => (simp only [De.g0, De.g1, De.g2]; rfl)
              case w8 => kernel_rfl
              case y8 => (intro b w' hw'; clear hw'; go_simp; (try with_reducible rfl))
              (try simp only [Act.put, De.l0, De.l1, De.l2])
              refine De.MidT.read2 (o := ?o9) (v := ?v9) 8 (by decide) ?q9 (by kernel_rfl) (by kernel_rfl) ?w9 ?y9 ?h9
              case q9 => (simp only [De.g0, De.g1, De.g2]; rfl)
              case w9 => kernel_rfl
              case y9 => (intro b w' hw'; clear hw'; go_simp; (try with_reducible rfl))
              (try simp only [Act.put, De.l0, De.l1, De.l2])
              refine De.MidT.read2 (o := ?o10) (v := ?v10) 9 (by decide) ?q10 (by kernel_rfl) (by kernel_rfl) ?w10 ?y10 ?h10
              case q10 => (simp only [De.g0, De.g1, De.g2]; rfl)
              case w10 => kernel_rfl
              case y10 => (intro b w' hw'; clear hw'; go_simp; (try with_reducible rfl))
              (try simp only [Act.put, De.l0, De.l1, De.l2])
              refine De.MidT.read2 (o := ?o11) (v := ?v11) 10 (by decide) ?q11 (by kernel_rfl) (by kernel_rfl) ?w11 ?y11 ?h11
              case q11 => (simp only [De.g0, De.g1, De.g2]; rfl)
              case w11 => kernel_rfl
              case y11 => (intro b w' hw'; clear hw'; go_simp; (try with_reducible rfl))
              (try simp only [Act.put, De.l0, De.l1, De.l2])
              refine De.MidT.read2 (o := ?o12) (v := ?v12) 11 (by decide) ?q12 (by kernel_rfl) (by kernel_rfl) ?w12 ?y12 ?h12
              case q12 => (simp only [De.g0, De.g1, De.g2]; rfl)
              case w12 => kernel_rfl
              case y12 => (intro b w' hw'; clear hw'; go_simp; (try with_reducible rfl))
              (try simp only [Act.put, De.l0, De.l1, De.l2])
              refine De.MidT.read2 (o := ?o13) (v := ?v13) 12 (by decide) ?q13 (by kernel_rfl) (by kernel_rfl) ?w13 ?y13 ?h13
              case q13 => (simp only [De.g0, De.g1, De.g2]; rfl)
              case w13 => kernel_rfl
              case y13 => (intro b w' hw'; clear hw'; go_simp; (try with_reducible rfl))
              (try simp only [Act.put, De.l0, De.l1, De.l2])
              (try refine De.MidT.tail ?_)
              refine De.Tr.one (i := 13) (o := ?o14) (by kernel_rfl) ?q14 ?g14 ?h14
              case q14 => (simp only [De.g0, De.g1, De.g2]; rfl)
              case g14 => rfl
              refine wp_setcell 5 _ _ rfl gt kk (.int .u8 (b1.toNat : Int)) rfl rfl (by go_simp) ?_
              refine ⟨⟨_, rfl⟩, ⟨trivial, trivial⟩, ?_⟩
              (try simp only [Act.put, De.l0, De.l1, De.l2])
              refine De.MidT.read2 (o := ?o15) (v := ?v15) 14 (by decide) ?q15 (by kernel_rfl) (by kernel_rfl) ?w15 ?y15 ?h15
              case q15 => (simp only [De.g0, De.g1, De.g2]; rfl)
              case w15 => kernel_rfl
              case y15 => (intro b w' hw'; clear hw'; go_simp; (try with_reducible rfl))
              (try simp only [Act.put, De.l0, De.l1, De.l2])
              (try refine De.MidT.tail ?_)
              refine De.Tr.one (i := 15) (o := ?o16) (by kernel_rfl) ?q16 ?g16 ?h16
              case q16 => (simp only [De.g0, De.g1, De.g2]; rfl)
              case g16 => rfl
              refine wp_setcell 5 _ _ rfl gt k1 (.int .u8 (b0.toNat : Int)) rfl rfl (by go_simp) ?_
              refine ⟨⟨_, rfl⟩, trivial, ?_⟩
              (try refine De.MidT.tail ?_)
              refine De.Tr.done (by kernel_rfl) ?_
              (try simp only [Act.put, De.l0, De.l1, De.l2])
              obtain ⟨wu, hwu⟩ : ∃ q, (wh.drew.setCell ⟨gt, kk, none⟩ (.int .u8 (b1.toNat : Int))).setCell ⟨gt, k1, none⟩ (.int .u8 (b0.toNat : Int)) = q := ⟨_, rfl⟩
              rw [hwu] at HS2 HG2
              rw [hwu]
              obtain ⟨lt, hlt9⟩ : ∃ q, (l.set kk b1).set k1 b0 = q := ⟨_, rfl⟩
              rw [hlt9] at HS2 HLt
              clear hwu hlt9 HS1 d0 d1 d2 d3 HBY2 HBG2 hcv2 HY1 HWg
              have HBt := HS2
              have HWt := HG2
              clear HS2 HG2
              as_aux_lemma =>
                obtain ⟨sg, hsg⟩ : ∃ q, bstr lt = q := ⟨_, rfl⟩
                have hcs := HBt.out.str (c := ct) HLt.out
                have HCS := Lib.hid (fun (w' : World) (hb : Below wu.heap.size wu w') => (HBt.out.below hb).str (c := ct) HLt.out)
                rw [hsg] at hcs HCS
                obtain ⟨E2, hE2⟩ : ∃ q, (readF sg).1 = q := ⟨_, rfl⟩
                have HR2 : Hid (∀ w', Below w.heap.size w w' → Calls Tryz.prog 47 #[.string sg] w' fun e w'' => ∃ pv, e = .returned (.tuple #[pv, .int .i64 E2]) ∧ Below w'.heap.size w' w'' ∧ ((E2 ≠ 0 ∧ pv = .pointer none) ∨ (E2 = 0 ∧ ∃ gp Q, pv = .pointer (some ⟨gp, 0, none⟩) ∧ Bk w w'' gp Q ∧ bstr (fileL Q.lines) = sg))) := read_two hE2 HT.out
                have hsge : (sg.toList == sg.toList) = true := by rw [str_eq]; exact decide_eq_true rfl
                clear hE2 hsg
                go_upto_region 28 with (first
                  | (go_at_call 47; (with_reducible refine (HR2.out _ HWt.out).mono ?_); rintro e w20 ⟨pv2, rfl, hb20, hc20⟩; have HW20 := Lib.hid (HWt.out.trans (hb20.mono HWt.out.size)); have HC20 := Lib.hid hc20; have HB20 := Lib.hid hb20; clear hb20 hc20))
                rcases HC20.out with ⟨hE0, hpv⟩ | ⟨hE0, gp, Q, hpv, hBQ, hQf⟩
                · subst hpv
                  have hE1 : (E2 == 0) = false := by simpa using hE0
                  have hE2 : (E2 != 0) = true := by rw [bne, hE1]; rfl
                  clear HC20 HR2 hcs
                  have HW21 : Hid (Below w.heap.size w w20.drew) := HW20.out.drew
                  refine wp_region_still_tail 17 (by kernel_rfl) (by kernel_rfl) ?_
                  simp only [List.take_succ_cons, List.take_zero, List.drop_succ_cons, List.drop_zero]
                  refine still_val (v := ?v17) ?w17 ?y17 ?h17
                  case w17 => kernel_rfl
                  case y17 => (go_simp; (try with_reducible rfl))
                  (try simp only [Act.put, De.l0, De.l1, De.l2])
                  refine still_val (v := ?v18) ?w18 ?y18 ?h18
                  case w18 => kernel_rfl
                  case y18 => (go_simp; (try with_reducible rfl))
                  (try simp only [Act.put, De.l0, De.l1, De.l2])
                  refine still_val (v := ?v19) ?w19 ?y19 ?h19
                  case w19 => kernel_rfl
                  case y19 => (go_simp; (try with_reducible rfl))
                  (try simp only [Act.put, De.l0, De.l1, De.l2])
                  refine still_val (v := ?v20) ?w20 ?y20 ?h20
                  case w20 => kernel_rfl
                  case y20 => (go_simp; (try with_reducible rfl))
                  (try simp only [Act.put, De.l0, De.l1, De.l2])
                  refine still_val (v := ?v21) ?w21 ?y21 ?h21
                  case w21 => kernel_rfl
                  case y21 => (go_simp; (try with_reducible rfl))
                  (try simp only [Act.put, De.l0, De.l1, De.l2])
                  refine still_val (v := ?v22) ?w22 ?y22 ?h22
                  case w22 => kernel_rfl
                  case y22 => (go_simp; (try with_reducible rfl))
                  (try simp only [Act.put, De.l0, De.l1, De.l2])
                  refine still_val (v := ?v23) ?w23 ?y23 ?h23
                  case w23 => kernel_rfl
                  case y23 => (go_simp; (try with_reducible rfl))
                  (try simp only [Act.put, De.l0, De.l1, De.l2])
                  refine still_val (v := ?v24) ?w24 ?y24 ?h24
                  case w24 => kernel_rfl
                  case y24 => (go_simp; (try with_reducible rfl))
                  (try simp only [Act.put, De.l0, De.l1, De.l2])
                  refine still_val (v := ?v25) ?w25 ?y25 ?h25
                  case w25 => kernel_rfl
                  case y25 => (go_simp; (try with_reducible rfl))
                  (try simp only [Act.put, De.l0, De.l1, De.l2])
                  refine still_not ?w26 ?h26
                  case w26 => kernel_rfl
                  (try simp only [Act.put, De.l0, De.l1, De.l2])
                  refine still_not ?w27 ?h27
                  case w27 => kernel_rfl
                  (try simp only [Act.put, De.l0, De.l1, De.l2])
                  refine still_not ?w28 ?h28
                  case w28 => kernel_rfl
                  (try simp only [Act.put, De.l0, De.l1, De.l2])
                  refine still_not ?w29 ?h29
                  case w29 => kernel_rfl
                  (try simp only [Act.put, De.l0, De.l1, De.l2])
                  refine still_not ?w30 ?h30
                  case w30 => kernel_rfl
                  (try simp only [Act.put, De.l0, De.l1, De.l2])
                  refine still_val (v := ?v31) ?w31 ?y31 ?h31
                  case w31 => kernel_rfl
                  case y31 => (go_simp; (try with_reducible rfl))
                  (try simp only [Act.put, De.l0, De.l1, De.l2])
                  refine still_val (v := ?v32) ?w32 ?y32 ?h32
                  case w32 => kernel_rfl
                  case y32 => (go_simp; (try with_reducible rfl))
                  (try simp only [Act.put, De.l0, De.l1, De.l2])
                  refine still_val (v := ?v33) ?w33 ?y33 ?h33
                  case w33 => kernel_rfl
                  case y33 => (go_simp; (try with_reducible rfl))
                  (try simp only [Act.put, De.l0, De.l1, De.l2])
                  refine wpStill_nil ?_
                  change wpList _ _ _ _ _ w20.drew
                  go_wp2_with (go_at_call 14; (with_reducible refine (HWO.out _ HW21.out).mono ?_); rintro e w22 ⟨rfl, hb22⟩; have HW22 := Lib.hid (HW21.out.trans (hb22.mono HW21.out.size)))
                  go_ret
                  exact ⟨rfl, HW22.out⟩
                · subst hpv hE0
                  have HBD : Hid (Bk w w20.drew gp Q) := hBQ.callee (Below.refl _ _).drew
                  have HQF := Lib.hid hQf
                  have hc21 := HCS.out w20.drew HB20.out.drew
                  clear HC20 HR2 hcs hBQ hQf
                  go_region_held3 (fun w' => (convert 71 9 (.slice (some ⟨gt, 0, none⟩) nf ct)).run Tryz.prog w' = .ok (.string sg) w') (first | assumption | exact hc21)
                    (first
                      | (go_at_call 25; refine (bk_file HT.out HBD.out HQF.out).mono ?_; rintro e w21 ⟨rfl, hB21, hb21⟩
                         have HW21 := Lib.hid hB21.below
                         have hc22 := HCS.out w21 (HB20.out.drew.trans (hb21.mono HB20.out.size)))
                      | (go_at_call 14; refine (HWO.out _ HW21.out).mono ?_; rintro e w22 ⟨rfl, hb22⟩
                         have HW22 := Lib.hid (HW21.out.trans (hb22.mono HW21.out.size))
                         have hc23 := HCS.out w22 ((HB20.out.drew.trans (hb21.mono HB20.out.size)).trans (hb22.mono (Nat.le_trans HB20.out.size hb21.size)))))
                  go_wp2_with (fail)
                  go_ret
                  exact ⟨rfl, HW22.out⟩
            · have HLt : Hid ((l.set kk zb).length = nf) := by rw [Hid, List.length_set]; exact HLl.out
              obtain ⟨lt, hlt9⟩ : ∃ q, l.set kk zb = q := ⟨_, rfl⟩
              rw [hlt9] at HLt HY1
              clear hlt9
              obtain ⟨gt, hgt⟩ : ∃ q, g = q := ⟨_, rfl⟩
              obtain ⟨ct, hct⟩ : ∃ q, cc = q := ⟨_, rfl⟩
              rw [hgt] at HY1
              rw [hgt, hct]
              have HBt := HY1
              have HWt := HWg
              clear hgt hct HY1 HWg
              cases swap with
              | false =>
                as_aux_lemma =>
                  obtain ⟨sg, hsg⟩ : ∃ q, bstr lt = q := ⟨_, rfl⟩
                  have hcs := HBt.out.str (c := ct) HLt.out
                  have HCS := Lib.hid (fun (w' : World) (hb : Below wt.heap.size wt w') => (HBt.out.below hb).str (c := ct) HLt.out)
                  rw [hsg] at hcs HCS
                  obtain ⟨E2, hE2⟩ : ∃ q, (readF sg).1 = q := ⟨_, rfl⟩
                  have HR2 : Hid (∀ w', Below w.heap.size w w' → Calls Tryz.prog 47 #[.string sg] w' fun e w'' => ∃ pv, e = .returned (.tuple #[pv, .int .i64 E2]) ∧ Below w'.heap.size w' w'' ∧ ((E2 ≠ 0 ∧ pv = .pointer none) ∨ (E2 = 0 ∧ ∃ gp Q, pv = .pointer (some ⟨gp, 0, none⟩) ∧ Bk w w'' gp Q ∧ bstr (fileL Q.lines) = sg))) := read_two hE2 HT.out
                  have hsge : (sg.toList == sg.toList) = true := by rw [str_eq]; exact decide_eq_true rfl
                  clear hE2 hsg
                  go_upto_region 28 with (first
                    | (go_at_call 47; (with_reducible refine (HR2.out _ HWt.out).mono ?_); rintro e w20 ⟨pv2, rfl, hb20, hc20⟩; have HW20 := Lib.hid (HWt.out.trans (hb20.mono HWt.out.size)); have HC20 := Lib.hid hc20; have HB20 := Lib.hid hb20; clear hb20 hc20))
                  rcases HC20.out with ⟨hE0, hpv⟩ | ⟨hE0, gp, Q, hpv, hBQ, hQf⟩
                  · subst hpv
                    have hE1 : (E2 == 0) = false := by simpa using hE0
                    have hE2 : (E2 != 0) = true := by rw [bne, hE1]; rfl
                    clear HC20 HR2 hcs
                    have HW21 : Hid (Below w.heap.size w w20.drew) := HW20.out.drew
                    refine wp_region_still_tail 17 (by kernel_rfl) (by kernel_rfl) ?_
                    simp only [List.take_succ_cons, List.take_zero, List.drop_succ_cons, List.drop_zero]
                    refine still_val (v := ?v34) ?w34 ?y34 ?h34
                    case w34 => kernel_rfl
                    case y34 => (go_simp; (try with_reducible rfl))
                    (try simp only [Act.put, De.l0, De.l1, De.l2])
                    refine still_val (v := ?v35) ?w35 ?y35 ?h35
                    case w35 => kernel_rfl
                    case y35 => (go_simp; (try with_reducible rfl))
                    (try simp only [Act.put, De.l0, De.l1, De.l2])
                    refine still_val (v := ?v36) ?w36 ?y36 ?h36
                    case w36 => kernel_rfl
                    case y36 => (go_simp; (try with_reducible rfl))
                    (try simp only [Act.put, De.l0, De.l1, De.l2])
                    refine still_val (v := ?v37) ?w37 ?y37 ?h37
                    case w37 => kernel_rfl
                    case y37 => (go_simp; (try with_reducible rfl))
                    (try simp only [Act.put, De.l0, De.l1, De.l2])
                    refine still_val (v := ?v38) ?w38 ?y38 ?h38
                    case w38 => kernel_rfl
                    case y38 => (go_simp; (try with_reducible rfl))
                    (try simp only [Act.put, De.l0, De.l1, De.l2])
                    refine still_val (v := ?v39) ?w39 ?y39 ?h39
                    case w39 => kernel_rfl
                    case y39 => (go_simp; (try with_reducible rfl))
                    (try simp only [Act.put, De.l0, De.l1, De.l2])
                    refine still_val (v := ?v40) ?w40 ?y40 ?h40
                    case w40 => kernel_rfl
                    case y40 => (go_simp; (try with_reducible rfl))
                    (try simp only [Act.put, De.l0, De.l1, De.l2])
                    refine still_val (v := ?v41) ?w41 ?y41 ?h41
                    case w41 => kernel_rfl
                    case y41 => (go_simp; (try with_reducible rfl))
                    (try simp only [Act.put, De.l0, De.l1, De.l2])
                    refine still_val (v := ?v42) ?w42 ?y42 ?h42
                    case w42 => kernel_rfl
                    case y42 => (go_simp; (try with_reducible rfl))
                    (try simp only [Act.put, De.l0, De.l1, De.l2])
                    refine still_not ?w43 ?h43
                    case w43 => kernel_rfl
                    (try simp only [Act.put, De.l0, De.l1, De.l2])
                    refine still_not ?w44 ?h44
                    case w44 => kernel_rfl
                    (try simp only [Act.put, De.l0, De.l1, De.l2])
                    refine still_not ?w45 ?h45
                    case w45 => kernel_rfl
                    (try simp only [Act.put, De.l0, De.l1, De.l2])
                    refine still_not ?w46 ?h46
                    case w46 => kernel_rfl
                    (try simp only [Act.put, De.l0, De.l1, De.l2])
                    refine still_not ?w47 ?h47
                    case w47 => kernel_rfl
                    (try simp only [Act.put, De.l0, De.l1, De.l2])
                    refine still_val (v := ?v48) ?w48 ?y48 ?h48
                    case w48 => kernel_rfl
                    case y48 => (go_simp; (try with_reducible rfl))
                    (try simp only [Act.put, De.l0, De.l1, De.l2])
                    refine still_val (v := ?v49) ?w49 ?y49 ?h49
                    case w49 => kernel_rfl
                    case y49 => (go_simp; (try with_reducible rfl))
                    (try simp only [Act.put, De.l0, De.l1, De.l2])
                    refine still_val (v := ?v50) ?w50 ?y50 ?h50
                    case w50 => kernel_rfl
                    case y50 => (go_simp; (try with_reducible rfl))
                    (try simp only [Act.put, De.l0, De.l1, De.l2])
                    refine wpStill_nil ?_
                    change wpList _ _ _ _ _ w20.drew
                    go_wp2_with (go_at_call 14; (with_reducible refine (HWO.out _ HW21.out).mono ?_); rintro e w22 ⟨rfl, hb22⟩; have HW22 := Lib.hid (HW21.out.trans (hb22.mono HW21.out.size)))
                    go_ret
                    exact ⟨rfl, HW22.out⟩
                  · subst hpv hE0
                    have HBD : Hid (Bk w w20.drew gp Q) := hBQ.callee (Below.refl _ _).drew
                    have HQF := Lib.hid hQf
                    have hc21 := HCS.out w20.drew HB20.out.drew
                    clear HC20 HR2 hcs hBQ hQf
                    go_region_held3 (fun w' => (convert 71 9 (.slice (some ⟨gt, 0, none⟩) nf ct)).run Tryz.prog w' = .ok (.string sg) w') (first | assumption | exact hc21)
                      (first
                        | (go_at_call 25; refine (bk_file HT.out HBD.out HQF.out).mono ?_; rintro e w21 ⟨rfl, hB21, hb21⟩
                           have HW21 := Lib.hid hB21.below
                           have hc22 := HCS.out w21 (HB20.out.drew.trans (hb21.mono HB20.out.size)))
                        | (go_at_call 14; refine (HWO.out _ HW21.out).mono ?_; rintro e w22 ⟨rfl, hb22⟩
                           have HW22 := Lib.hid (HW21.out.trans (hb22.mono HW21.out.size))
                           have hc23 := HCS.out w22 ((HB20.out.drew.trans (hb21.mono HB20.out.size)).trans (hb22.mono (Nat.le_trans HB20.out.size hb21.size)))))
                    go_wp2_with (fail)
                    go_ret
                    exact ⟨rfl, HW22.out⟩
              | true =>
                have hk3 : ¬ (kk : Int) + 1 < (nf : Int) := fun h => hsw ⟨rfl, by omega⟩
                as_aux_lemma =>
                  obtain ⟨sg, hsg⟩ : ∃ q, bstr lt = q := ⟨_, rfl⟩
                  have hcs := HBt.out.str (c := ct) HLt.out
                  have HCS := Lib.hid (fun (w' : World) (hb : Below wt.heap.size wt w') => (HBt.out.below hb).str (c := ct) HLt.out)
                  rw [hsg] at hcs HCS
                  obtain ⟨E2, hE2⟩ : ∃ q, (readF sg).1 = q := ⟨_, rfl⟩
                  have HR2 : Hid (∀ w', Below w.heap.size w w' → Calls Tryz.prog 47 #[.string sg] w' fun e w'' => ∃ pv, e = .returned (.tuple #[pv, .int .i64 E2]) ∧ Below w'.heap.size w' w'' ∧ ((E2 ≠ 0 ∧ pv = .pointer none) ∨ (E2 = 0 ∧ ∃ gp Q, pv = .pointer (some ⟨gp, 0, none⟩) ∧ Bk w w'' gp Q ∧ bstr (fileL Q.lines) = sg))) := read_two hE2 HT.out
                  have hsge : (sg.toList == sg.toList) = true := by rw [str_eq]; exact decide_eq_true rfl
                  clear hE2 hsg
                  go_upto_region 28 with (first
                    | (go_at_call 47; (with_reducible refine (HR2.out _ HWt.out).mono ?_); rintro e w20 ⟨pv2, rfl, hb20, hc20⟩; have HW20 := Lib.hid (HWt.out.trans (hb20.mono HWt.out.size)); have HC20 := Lib.hid hc20; have HB20 := Lib.hid hb20; clear hb20 hc20))
                  rcases HC20.out with ⟨hE0, hpv⟩ | ⟨hE0, gp, Q, hpv, hBQ, hQf⟩
                  · subst hpv
                    have hE1 : (E2 == 0) = false := by simpa using hE0
                    have hE2 : (E2 != 0) = true := by rw [bne, hE1]; rfl
                    clear HC20 HR2 hcs
                    have HW21 : Hid (Below w.heap.size w w20.drew) := HW20.out.drew
                    refine wp_region_still_tail 17 (by kernel_rfl) (by kernel_rfl) ?_
                    simp only [List.take_succ_cons, List.take_zero, List.drop_succ_cons, List.drop_zero]
                    refine still_val (v := ?v51) ?w51 ?y51 ?h51
                    case w51 => kernel_rfl
                    case y51 => (go_simp; (try with_reducible rfl))
                    (try simp only [Act.put, De.l0, De.l1, De.l2])
                    refine still_val (v := ?v52) ?w52 ?y52 ?h52
                    case w52 => kernel_rfl
                    case y52 => (go_simp; (try with_reducible rfl))
                    (try simp only [Act.put, De.l0, De.l1, De.l2])
                    refine still_val (v := ?v53) ?w53 ?y53 ?h53
                    case w53 => kernel_rfl
                    case y53 => (go_simp; (try with_reducible rfl))
                    (try simp only [Act.put, De.l0, De.l1, De.l2])
                    refine still_val (v := ?v54) ?w54 ?y54 ?h54
                    case w54 => kernel_rfl
                    case y54 => (go_simp; (try with_reducible rfl))
                    (try simp only [Act.put, De.l0, De.l1, De.l2])
                    refine still_val (v := ?v55) ?w55 ?y55 ?h55
                    case w55 => kernel_rfl
                    case y55 => (go_simp; (try with_reducible rfl))
                    (try simp only [Act.put, De.l0, De.l1, De.l2])
                    refine still_val (v := ?v56) ?w56 ?y56 ?h56
                    case w56 => kernel_rfl
                    case y56 => (go_simp; (try with_reducible rfl))
                    (try simp only [Act.put, De.l0, De.l1, De.l2])
                    refine still_val (v := ?v57) ?w57 ?y57 ?h57
                    case w57 => kernel_rfl
                    case y57 => (go_simp; (try with_reducible rfl))
                    (try simp only [Act.put, De.l0, De.l1, De.l2])
                    refine still_val (v := ?v58) ?w58 ?y58 ?h58
                    case w58 => kernel_rfl
                    case y58 => (go_simp; (try with_reducible rfl))
                    (try simp only [Act.put, De.l0, De.l1, De.l2])
                    refine still_val (v := ?v59) ?w59 ?y59 ?h59
                    case w59 => kernel_rfl
                    case y59 => (go_simp; (try with_reducible rfl))
                    (try simp only [Act.put, De.l0, De.l1, De.l2])
                    refine still_not ?w60 ?h60
                    case w60 => kernel_rfl
                    (try simp only [Act.put, De.l0, De.l1, De.l2])
                    refine still_not ?w61 ?h61
                    case w61 => kernel_rfl
                    (try simp only [Act.put, De.l0, De.l1, De.l2])
                    refine still_not ?w62 ?h62
                    case w62 => kernel_rfl
                    (try simp only [Act.put, De.l0, De.l1, De.l2])
                    refine still_not ?w63 ?h63
                    case w63 => kernel_rfl
                    (try simp only [Act.put, De.l0, De.l1, De.l2])
                    refine still_not ?w64 ?h64
                    case w64 => kernel_rfl
                    (try simp only [Act.put, De.l0, De.l1, De.l2])
                    refine still_val (v := ?v65) ?w65 ?y65 ?h65
                    case w65 => kernel_rfl
                    case y65 => (go_simp; (try with_reducible rfl))
                    (try simp only [Act.put, De.l0, De.l1, De.l2])
                    refine still_val (v := ?v66) ?w66 ?y66 ?h66
                    case w66 => kernel_rfl
                    case y66 => (go_simp; (try with_reducible rfl))
                    (try simp only [Act.put, De.l0, De.l1, De.l2])
                    refine still_val (v := ?v67) ?w67 ?y67 ?h67
                    case w67 => kernel_rfl
                    case y67 => (go_simp; (try with_reducible rfl))
                    (try simp only [Act.put, De.l0, De.l1, De.l2])
                    refine wpStill_nil ?_
                    change wpList _ _ _ _ _ w20.drew
                    go_wp2_with (go_at_call 14; (with_reducible refine (HWO.out _ HW21.out).mono ?_); rintro e w22 ⟨rfl, hb22⟩; have HW22 := Lib.hid (HW21.out.trans (hb22.mono HW21.out.size)))
                    go_ret
                    exact ⟨rfl, HW22.out⟩
                  · subst hpv hE0
                    have HBD : Hid (Bk w w20.drew gp Q) := hBQ.callee (Below.refl _ _).drew
                    have HQF := Lib.hid hQf
                    have hc21 := HCS.out w20.drew HB20.out.drew
                    clear HC20 HR2 hcs hBQ hQf
                    go_region_held3 (fun w' => (convert 71 9 (.slice (some ⟨gt, 0, none⟩) nf ct)).run Tryz.prog w' = .ok (.string sg) w') (first | assumption | exact hc21)
                      (first
                        | (go_at_call 25; refine (bk_file HT.out HBD.out HQF.out).mono ?_; rintro e w21 ⟨rfl, hB21, hb21⟩
                           have HW21 := Lib.hid hB21.below
                           have hc22 := HCS.out w21 (HB20.out.drew.trans (hb21.mono HB20.out.size)))
                        | (go_at_call 14; refine (HWO.out _ HW21.out).mono ?_; rintro e w22 ⟨rfl, hb22⟩
                           have HW22 := Lib.hid (HW21.out.trans (hb22.mono HW21.out.size))
                           have hc23 := HCS.out w22 ((HB20.out.drew.trans (hb21.mono HB20.out.size)).trans (hb22.mono (Nat.le_trans HB20.out.size hb21.size)))))
                    go_wp2_with (fail)
                    go_ret
                    exact ⟨rfl, HW22.out⟩
end
end Dr
end Go.Proofs.YtbgakdpbglpfaaaGreatDoor
