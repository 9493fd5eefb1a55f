/- DresserUndone: lines that are taken back, told anew, done and taken back: the law, walked. -/
import Derived.Test.YtbgakdpbglpfaaaGreatDoorDuD
import Derived.Test.YtbgakdpbglpfaaaGreatDoorDuF
namespace Go.Proofs.YtbgakdpbglpfaaaGreatDoor
open Go.RowKit
namespace Dr
set_option linter.unusedSimpArgs false
/-- two books, and a row of lines that no turn of them touches -/
structure Un (w0 w : World) (ga : Nat) (A : Book) (gb : Nat) (B : Book) (v : Value) (ls : List ByteArray) : Prop where
  s : ∃ G, Bs G w0 w ga A gb B ∧ ∀ g, blkOf v = some g → G g
  o : OwnT w v ls
section
variable {w0 w w' : World} {ga gb : Nat} {A A' B : Book} {v : Value} {ls : List ByteArray}
theorem Un.left (h : Un w0 w ga A gb B v ls) : Bk w0 w ga A := by
  obtain ⟨⟨G, h, _⟩, _⟩ := h
  exact h.left
theorem Un.right (h : Un w0 w ga A gb B v ls) : Bk w0 w gb B := by
  obtain ⟨⟨G, h, _⟩, _⟩ := h
  exact h.right
theorem Un.be (h : Un w0 w ga A gb B v ls) : Below w0.heap.size w0 w := h.left.below
theorem Un.swap (h : Un w0 w ga A gb B v ls) : Un w0 w gb B ga A v ls := by
  obtain ⟨⟨G, h, hg⟩, ho⟩ := h
  exact ⟨⟨G, h.swap, hg⟩, ho⟩
theorem Un.callee (h : Un w0 w ga A gb B v ls) (hb : Below w.heap.size w w') : Un w0 w' ga A gb B v ls := by
  obtain ⟨⟨G, h, hg⟩, ho⟩ := h
  exact ⟨⟨G, h.callee hb, hg⟩, OwnS.callee ho hb⟩
theorem un_do (T : Tabs w0) (h : Un w0 w ga A gb B v ls) (line : ByteArray) {E : Int} {A' : Book} (e1 : A.would line = E) (e2 : A.done line = A') :
    Calls Tryz.prog 20 #[.pointer (some ⟨ga, 0, none⟩), .string line] w fun e w' => e = .returned (.int .i64 E) ∧ Un w0 w' ga A' gb B v ls := by
  obtain ⟨⟨G, h, hg⟩, ho⟩ := h
  exact (bs_do T h line e1 e2).mono fun e w' hp => ⟨hp.1, ⟨G, hp.2.1, hg⟩, hp.2.2.row hg ho⟩
theorem un_would (T : Tabs w0) (h : Un w0 w ga A gb B v ls) (line : ByteArray) {E : Int} (e1 : A.would line = E) :
    Calls Tryz.prog 19 #[.pointer (some ⟨ga, 0, none⟩), .string line] w fun e w' => e = .returned (.int .i64 E) ∧ Un w0 w' ga A gb B v ls := by
  obtain ⟨⟨G, h, hg⟩, ho⟩ := h
  exact (bs_would T h line e1).mono fun e w' hp => ⟨hp.1, ⟨G, hp.2.1, hg⟩, hp.2.2.row hg ho⟩
theorem un_undo (T : Tabs w0) (h : Un w0 w ga A gb B v ls) {E : Int} {A' : Book} (e1 : A.undo = (E, A')) :
    Calls Tryz.prog 17 #[.pointer (some ⟨ga, 0, none⟩)] w fun e w' => e = .returned (.int .i64 E) ∧ Un w0 w' ga A' gb B v ls := by
  obtain ⟨⟨G, h, hg⟩, ho⟩ := h
  exact (bs_undo T h e1).mono fun e w' hp => ⟨hp.1, ⟨G, hp.2.1, hg⟩, hp.2.2.row hg ho⟩
theorem un_file (T : Tabs w0) (h : Un w0 w ga A gb B v ls) {r : ByteArray} (h1 : bstr (fileL A.lines) = r) : Calls Tryz.prog 25 #[.pointer (some ⟨ga, 0, none⟩)] w fun e w' => e = .returned (.string r) ∧ Un w0 w' ga A gb B v ls :=
  (bk_file T h.left h1).mono fun _ _ hp => ⟨hp.1, h.callee hp.2.2⟩
theorem un_alike (T : Tabs w0) (h : Un w0 w ga A gb A v ls) : Calls Tryz.prog 38 #[.pointer (some ⟨ga, 0, none⟩), .pointer (some ⟨gb, 0, none⟩)] w fun e w' => e = .returned (.bool true) ∧ Un w0 w' ga A gb A v ls :=
  (alike_books T h.left h.right).mono fun _ _ hp => ⟨hp.1, h.callee hp.2⟩
theorem Un.at_ (h : Un w0 w ga A gb B v ls) {i : Nat} (hi : i < ls.length) : ∃ g c x, v = .slice (some ⟨g, 0, none⟩) ls.length c ∧ w.cell? ⟨g, i, none⟩ = some (.string x) ∧ ls[i]? = some x := by
  have hx : ls[i]? = some ls[i] := List.getElem?_eq_getElem hi
  obtain ⟨g, c, e, _, hc⟩ := ownT_cell h.o hx
  exact ⟨g, c, _, e, hc, hx⟩
end
/-- what a loop of the law does with one line -/
theorem would_done {C : Book} (R : Rep C) (x : ByteArray) : (C.would x = 0 ∧ (C.done x).undo = (0, C)) ∨ (C.would x ≠ 0 ∧ C.done x = C) := by
  by_cases h : C.would x = 0
  · exact Or.inl ⟨h, R.back h⟩
  · exact Or.inr ⟨h, done_no h⟩
set_option maxRecDepth 100000 in
set_option maxHeartbeats 8000000 in
theorem undone_law (P Q : Option Addr) (n m c d : Nat) (qs ps : List Quad) (w : World) (T : Tabs w) (hq : RQuads w w.heap.size P n qs) (hp : RQuads w w.heap.size Q m ps) (hn : n ≤ maxLen) (hm : m ≤ maxLen) :
    Calls Tryz.prog 6 #[.slice P n c, .slice Q m d] w fun e w' => e = .returned (.bool true) ∧ Below w.heap.size w w' := by
  have HT := Lib.hid T
  have HWO := Lib.hid (fun (w' : World) (hb : Below w.heap.size w w') => works_any w' (T.below hb))
  have HQ := Lib.hid hq
  have HP := Lib.hid hp
  have HN := Lib.hid hn
  have HM := Lib.hid hm
  obtain ⟨l1, hl1⟩ : ∃ q, seasonL true qs = q := ⟨_, rfl⟩
  have h30 : Hid (l1.length ≤ 1000) := by rw [Hid, ← hl1]; exact Nat.le_trans (season_le _ _) (by decide)
  have HL1 := Lib.hid hl1
  obtain ⟨l2, hl2⟩ : ∃ q, seasonL false ps = q := ⟨_, rfl⟩
  have h31 : Hid (l2.length ≤ 1000) := by rw [Hid, ← hl2]; exact Nat.le_trans (season_le _ _) (by decide)
  have HL2 := Lib.hid hl2
  obtain ⟨B, hB⟩ : ∃ q, bookP l1 = q := ⟨_, rfl⟩
  have HR : Hid (Rep B) := by rw [Hid, ← hB]; exact Rep.bookP _
  have HBB := Lib.hid hB
  clear T hq hp hn hm hl1 hl2 hB
  go_enter Tryz.func6, Tryz.ntmps6
  go_wp2_with (first
    | (go_at_call 37; (with_reducible refine (season_any HT.out P n c qs HQ.out HN.out true).mono ?_)
       rintro e w1 ⟨v1, rfl, hO1, _, hb1⟩
       rw [HL1.out] at hO1
       obtain ⟨P1, c1, rfl, hr1⟩ := OwnS.reads hO1
       obtain ⟨n1, hn1⟩ : ∃ q, l1.length = q := ⟨_, rfl⟩
       rw [hn1]
       rw [hn1] at hr1
       have HN1 : Hid (n1 ≤ 1000) := by rw [Hid, ← hn1]; exact h30.out
       have HR1 := Lib.hid hr1
       have HB1 := Lib.hid hb1
       clear hO1 hr1 hb1 hn1)
    | (go_at_call 36; (with_reducible refine (book_any (HT.out.below HB1.out) P1 n1 c1 l1 HN1.out HR1.out).mono ?_)
       rintro e w2 ⟨gb, rfl, hB2⟩
       rw [HBB.out] at hB2
       have HB2 := Lib.hid (hB2.base HB1.out)
       clear hB2)
    | (go_at_call 15; (with_reducible refine (bs_new HB2.out).mono ?_)
       rintro e w3 ⟨ga, rfl, hS, _⟩
       have HS3 := Lib.hid hS.swap
       clear hS)
    | (go_at_call 23; (with_reducible refine (bs_lines HS3.out).mono ?_)
       rintro e w4 ⟨P4, c4, G4, rfl, hO4, hS4, hg4, _⟩
       obtain ⟨nb, hnb⟩ : ∃ q, B.lines.length = q := ⟨_, rfl⟩
       rw [hnb] at hO4 hg4
       rw [hnb]
       have HNB : Hid (nb ≤ 100) := by rw [Hid, ← hnb]; exact hS4.invA.len
       have HNb := Lib.hid hnb
       have HU4 : Hid (Un w w4 gb B ga Book.new (.slice P4 nb c4) B.lines) := ⟨⟨G4, hS4, hg4⟩, hO4⟩
       clear hO4 hS4 hg4 hnb))
  go_loopw [21] (fun v wr => ∃ i : Nat, i ≤ nb ∧ v = .int .i64 i ∧ Un w wr gb B ga (Book.told (B.lines.take i)) (.slice P4 nb c4) B.lines) (fun v _ => nb - (intOf v).toNat)
  case atStart => exact ⟨0, Nat.zero_le _, rfl, HU4.out⟩
  case round =>
    obtain ⟨i, hi, rfl, hU⟩ := hrel
    by_cases hlt : i < nb
    · have hlti : (i : Int) < nb := by omega
      have hnb : (nb : Int) ≤ 100 := by have := HNB.out; omega
      have hi0 : (0 : Int) ≤ i := by omega
      obtain ⟨g, c', x, hv, hcx, hx⟩ := hU.at_ (by rw [HNb.out]; exact hlt)
      rw [HNb.out] at hv
      injection hv with hv1 hv2 hv3
      subst hv1 hv3
      have HW := Lib.hid (HR.out.would hx)
      have HD := Lib.hid (un_do HT.out hU.swap x HW.out (step_take hx))
      clear hx
      go_wp2_with (go_at_call 20; (with_reducible refine HD.out.mono ?_); rintro e w5 ⟨rfl, hU5⟩)
      go_roundw
      case rel => exact ⟨i + 1, by omega, by go_num, hU5.swap⟩
      case measure => simp only [intOf]; omega
    · obtain rfl : i = nb := by omega
      rw [show B.lines.take i = B.lines from List.take_of_length_le (by have := HNb.out; omega), HR.out.eq] at hU
      have hlti : ¬ (i : Int) < i := by omega
      have HU := Lib.hid hU
      clear hU HU4
      go_wp2_with (first
        | (go_at_call 38; (with_reducible refine (un_alike HT.out HU.out).mono ?_)
           rintro e w6 ⟨rfl, hU6⟩
           have HU6 := Lib.hid hU6
           clear hU6)
        | (go_at_call 37; (with_reducible refine (season_any (HT.out.below HU6.out.be) Q m d ps (HP.out.at_world HU6.out.be) HM.out false).mono ?_)
           rintro e w7 ⟨v7, rfl, hO7, hn7, hb7⟩
           rw [HL2.out] at hO7
           obtain ⟨P7, c7, rfl, _⟩ := OwnS.reads hO7
           obtain ⟨n7, hn7'⟩ : ∃ q, l2.length = q := ⟨_, rfl⟩
           rw [hn7'] at hO7 hn7
           rw [hn7']
           have HN7 : Hid (n7 ≤ 1000) := by rw [Hid, ← hn7']; exact h31.out
           have HNl := Lib.hid hn7'
           have HU7 : Hid (Un w w7 gb B ga B (.slice P7 n7 c7) l2) := by
             obtain ⟨⟨G, hS, _⟩, _⟩ := HU6.out
             exact ⟨⟨_, hS.guard hb7 hO7 hn7, fun g hg => Or.inr hg⟩, hO7⟩
           clear hO7 hn7 hb7 hn7'))
      go_loopw [37] (fun v wr => ∃ (i : Nat) (C : Book), i ≤ n7 ∧ v = .int .i64 i ∧ Rep C ∧ Un w wr gb C ga C (.slice P7 n7 c7) l2) (fun v _ => n7 - (intOf v).toNat)
      case atStart => exact ⟨0, B, Nat.zero_le _, rfl, HR.out, HU7.out⟩
      case round =>
        obtain ⟨i, C, hi, rfl, hRC, hU⟩ := hrel
        clear HU HU6 HU7
        by_cases hlt : i < n7
        · have hlti : (i : Int) < n7 := by omega
          have hn7 : (n7 : Int) ≤ 1000 := by have := HN7.out; omega
          have hi0 : (0 : Int) ≤ i := by omega
          obtain ⟨g, c', x, hv, hcx, hx⟩ := hU.at_ (by rw [HNl.out]; exact hlt)
          rw [HNl.out] at hv
          injection hv with hv1 hv2 hv3
          subst hv1 hv3
          obtain ⟨r, hr⟩ : ∃ q, bstr (fileL C.lines) = q := ⟨_, rfl⟩
          have hre : (r.toList == r.toList) = true := by rw [str_eq]; exact decide_eq_true rfl
          have HF := Lib.hid hr
          have HU0 := Lib.hid hU
          have HRD := Lib.hid (hRC.step x)
          rcases would_done hRC x with ⟨hw, hun⟩ | ⟨hw, hdn⟩
          · obtain ⟨D, hD⟩ : ∃ q, C.done x = q := ⟨_, rfl⟩
            rw [hD] at hun HRD
            have HW := Lib.hid hw
            have HD := Lib.hid hD
            have HX := Lib.hid hun
            clear hx hr hU hRC hw hun hD
            go_wp2_with (first
              | (go_at_call 25; (with_reducible refine (un_file HT.out HU0.out HF.out).mono ?_); rintro e w8 ⟨rfl, hU8⟩; replace HU0 := Lib.hid hU8; clear hU8)
              | (go_at_call 19; (with_reducible refine (un_would HT.out HU0.out x HW.out).mono ?_); rintro e w8 ⟨rfl, hU8⟩; replace HU0 := Lib.hid hU8; clear hU8)
              | (go_at_call 20; (with_reducible refine (un_do HT.out HU0.out x HW.out HD.out).mono ?_); rintro e w8 ⟨rfl, hU8⟩; have HU1 := Lib.hid hU8; clear hU8 HU0)
              | (go_at_call 17; (with_reducible refine (un_undo HT.out HU1.out HX.out).mono ?_); rintro e w8 ⟨rfl, hU8⟩; have HU2 := Lib.hid hU8; clear hU8 HU1)
              | (go_at_call 25; (with_reducible refine (un_file HT.out HU2.out HF.out).mono ?_); rintro e w8 ⟨rfl, hU8⟩; replace HU2 := Lib.hid hU8; clear hU8)
              | (go_at_call 38; (with_reducible refine (un_alike HT.out HU2.out).mono ?_); rintro e w8 ⟨rfl, hU8⟩; replace HU2 := Lib.hid hU8; clear hU8)
              | (go_at_call 20; (with_reducible refine (un_do HT.out HU2.out x HW.out HD.out).mono ?_); rintro e w8 ⟨rfl, hU8⟩; have HU3 := Lib.hid hU8.swap; clear hU8 HU2)
              | (go_at_call 20; (with_reducible refine (un_do HT.out HU3.out x HW.out HD.out).mono ?_); rintro e w8 ⟨rfl, hU8⟩; have HU4 := Lib.hid hU8.swap; clear hU8 HU3))
            go_roundw
            case rel => exact ⟨i + 1, D, by omega, by go_num, HRD.out, HU4.out⟩
            case measure => simp only [intOf]; omega
          · obtain ⟨E, hE⟩ : ∃ q, C.would x = q := ⟨_, rfl⟩
            rw [hE] at hw
            have hE0 : (E == 0) = false := by simpa using hw
            have HW := Lib.hid hE
            have HD := Lib.hid hdn
            have HRC := Lib.hid hRC
            clear hx hr hU hRC hdn hE
            go_wp2_with (first
              | (go_at_call 25; (with_reducible refine (un_file HT.out HU0.out HF.out).mono ?_); rintro e w8 ⟨rfl, hU8⟩; replace HU0 := Lib.hid hU8; clear hU8)
              | (go_at_call 19; (with_reducible refine (un_would HT.out HU0.out x HW.out).mono ?_); rintro e w8 ⟨rfl, hU8⟩; replace HU0 := Lib.hid hU8; clear hU8)
              | (go_at_call 20; (with_reducible refine (un_do HT.out HU0.out x HW.out HD.out).mono ?_); rintro e w8 ⟨rfl, hU8⟩; replace HU0 := Lib.hid hU8; clear hU8)
              | (go_at_call 38; (with_reducible refine (un_alike HT.out HU0.out).mono ?_); rintro e w8 ⟨rfl, hU8⟩; replace HU0 := Lib.hid hU8; clear hU8)
              | (go_at_call 20; (with_reducible refine (un_do HT.out HU0.out.swap x HW.out HD.out).mono ?_); rintro e w8 ⟨rfl, hU8⟩; replace HU0 := Lib.hid hU8.swap; clear hU8))
            go_roundw
            case rel => exact ⟨i + 1, C, by omega, by go_num, HRC.out, HU0.out⟩
            case measure => simp only [intOf]; omega
        · obtain rfl : i = n7 := by omega
          have hlti : ¬ (i : Int) < i := by omega
          have HRC := Lib.hid hRC
          have HU0 := Lib.hid hU.swap
          obtain ⟨N, hN⟩ : ∃ q, C.lines.length = q := ⟨_, rfl⟩
          have HN0 := Lib.hid hN
          have HN1 : Hid (N ≤ 100) := by rw [Hid, ← hN]; exact hU.left.inv.len
          clear hRC hU hN
          go_wp2_with (go_at_call 23; (with_reducible refine (bk_lines HU0.out.left rfl).mono ?_)
                       rintro e w9 ⟨v9, rfl, hO9, _, hb9⟩
                       obtain ⟨P9, c9, rfl, _⟩ := ownS_form hO9
                       rw [HN0.out]
                       have HU9 := Lib.hid (HU0.out.callee hb9)
                       clear hO9 hb9)
          go_loopw [13] (fun v wr => ∃ j : Nat, j ≤ N ∧ v = .int .i64 j ∧ Un w wr ga (Book.told (C.lines.take j)) gb C (.slice P7 i c7) l2) (fun v _ => (intOf v).toNat)
          case atStart => exact ⟨N, Nat.le_refl _, rfl, by rw [List.take_of_length_le (by have := HN0.out; omega), HRC.out.eq]; exact HU9.out⟩
          case round =>
            obtain ⟨j, hj, rfl, hU⟩ := hrel
            clear HU0 HU9
            cases j with
            | zero =>
              have HUn : Hid (Un w wr ga Book.new gb C (.slice P7 i c7) l2) := hU
              clear hU
              go_wp2_with (first
                | (go_at_call 17; (with_reducible refine (un_undo HT.out HUn.out undo_new).mono ?_); rintro e wa ⟨rfl, hUa⟩; have HUa := Lib.hid hUa.left; clear hUa)
                | (go_at_call 15; (with_reducible refine (bk_new HUa.out.below).mono ?_); rintro e wb ⟨g9, rfl, hBb, hbb⟩; have HUb := Lib.hid (HUa.out.callee hbb); have HBb := Lib.hid hBb; clear hBb hbb)
                | (go_at_call 38; (with_reducible refine (alike_books HT.out HUb.out HBb.out).mono ?_); rintro e wc ⟨rfl, hbc⟩; have HBc := Lib.hid (HUb.out.callee hbc).below; clear hbc)
                | (go_at_call 14; (with_reducible refine (HWO.out _ HBc.out).mono ?_); rintro e wd ⟨rfl, hbd⟩))
              go_ret
              exact ⟨rfl, HBc.out.trans (hbd.mono HBc.out.size)⟩
            | succ j =>
              obtain ⟨k, hk⟩ : ∃ q, j + 1 = q := ⟨_, rfl⟩
              have HX := Lib.hid (HRC.out.undo_take (i := j) (by rw [HN0.out]; omega))
              have HLj : Hid ((Book.told (C.lines.take j)).lines.length = j) := by rw [Hid, HRC.out.take, List.length_take, HN0.out]; omega
              rw [hk] at hU HX hj ⊢
              have hk1 : (k : Int) - 1 = (j : Int) := by omega
              have hk0 : (0 : Int) < (k : Int) := by omega
              have hk9 : (k : Int) ≤ 100 := by have := HN1.out; omega
              obtain ⟨Cj, hCj⟩ : ∃ q, Book.told (C.lines.take j) = q := ⟨_, rfl⟩
              have HCj := Lib.hid hCj
              rw [hCj] at HX HLj
              have HUk := Lib.hid hU
              clear hU hCj
              go_wp2_with (first
                | (go_at_call 17; (with_reducible refine (un_undo HT.out HUk.out HX.out).mono ?_); rintro e wa ⟨rfl, hUa⟩; have HUa := Lib.hid hUa; clear hUa)
                | (go_at_call 23; (with_reducible refine (bk_lines HUa.out.left rfl).mono ?_)
                   rintro e wb ⟨v9, rfl, hO9, _, hb9⟩
                   obtain ⟨Pb, cb, rfl, _⟩ := ownS_form hO9
                   rw [HLj.out]
                   have HUb := Lib.hid (HUa.out.callee hb9)
                   clear hO9 hb9))
              go_roundw
              case rel => exact ⟨j, by omega, by go_num, by rw [HCj.out]; exact HUb.out⟩
              case measure => simp only [intOf]; omega
end Dr
end Go.Proofs.YtbgakdpbglpfaaaGreatDoor
