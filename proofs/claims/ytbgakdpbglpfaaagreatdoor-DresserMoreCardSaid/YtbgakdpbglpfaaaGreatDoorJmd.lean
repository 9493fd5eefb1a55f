/- The texts DrMd to DrMf, joined by joinlist.py: their statements say what each proves. -/
import Derived.Test.YtbgakdpbglpfaaaGreatDoorJmb
import Derived.Carry
-- the text DrMd
namespace Go.Proofs.YtbgakdpbglpfaaaGreatDoor
open Go.RowKit
namespace Dr
set_option linter.unusedSimpArgs false
def BFoot (V : Vals) (gb : Nat) (vl : Value) (i : Nat) : Prop := Foot V i ∨ i = gb ∨ blkOf vl = some i
/-- what a method that may turn the book leaves -/
def BookPost (V : Vals) (gb : Nat) (vl : Value) (w : World) (B : Book) (R : Int) (e : Ending) (w' : World) : Prop :=
  e = .returned (.int .i64 R) ∧ ∃ V' vl', BookAt w' V' gb vl' B ∧ Frm (BFoot V gb vl) w (BFoot V' gb vl') w'
section
variable {w w' : World} {V V' : Vals} {gb : Nat} {vl : Value} {B : Book} {S : House}
theorem BookAt.lt (H : BookAt w V gb vl B) {i : Nat} (h : BFoot V gb vl i) : i < w.heap.size := by
  rcases h with h | rfl | h
  · exact H.house.lt h
  · exact H.bk.lt
  · exact ownS_lt H.lines h
theorem BookAt.same (H : BookAt w V gb vl B) (h : ∀ i, BFoot V gb vl i → w'.heap[i]? = w.heap[i]?) : BookAt w' V gb vl B where
  house := H.house.same fun i hi => h i (Or.inl hi)
  bk := (h gb (Or.inr (Or.inl rfl))).trans H.bk
  lines := OwnS.same H.lines fun i hi => h i (Or.inr (Or.inr hi))
  nb := H.nb
  nl := H.nl
theorem BookAt.callee (H : BookAt w V gb vl B) (hb : Below w.heap.size w w') : BookAt w' V gb vl B := H.same fun i hi => hb.block i (H.lt hi)
theorem BookAt.turn (H : BookAt w V gb vl B) (hH : HouseAt w' V' S) (hV : V' .house = V .house) (hF : Frm (Foot V) w (Foot V') w') : BookAt w' V' gb vl ⟨S, B.lines⟩ where
  house := hH
  bk := by
    rw [hV]
    exact (hF.block gb H.bk.lt H.nb).trans H.bk
  lines := OwnS.same H.lines fun i hi => hF.block i (ownS_lt H.lines hi) (H.nl i hi)
  nb := fun hf => by
    rcases hF.foot gb hf with h | h
    · exact H.nb h
    · have := H.bk.lt
      omega
  nl := fun g hg hf => by
    rcases hF.foot g hf with h | h
    · exact H.nl g hg h
    · have := ownS_lt H.lines hg
      omega
theorem frm_book (hF : Frm (Foot V) w (Foot V') w') : Frm (BFoot V gb vl) w (BFoot V' gb vl) w' :=
  ⟨hF.os, hF.tape, hF.output, hF.size, fun i hi hn => hF.block i hi (fun h => hn (Or.inl h)), fun i hi => by
    rcases hi with h | h
    · exact (hF.foot i h).imp Or.inl id
    · exact Or.inl (Or.inr h)⟩
theorem BookPost.quiet (H : BookAt w V gb vl B) {R : Int} {e : Ending} (he : e = .returned (.int .i64 R)) (hb : Below w.heap.size w w') : BookPost V gb vl w B R e w' :=
  ⟨he, V, vl, H.callee hb, Frm.below hb⟩
/-- the table that the library's searches look at -/
def MaxL (w : World) : Prop := ∃ m, w.cell? ⟨3, 0, none⟩ = some (.int .i64 m)
theorem try_any (H : BookAt w V gb vl B) (I : BInv B) (hm : MaxL w) (line : ByteArray) (stay : Bool) :
    Calls Tryz.prog 64 #[.pointer (some ⟨gb, 0, none⟩), .string line, .bool stay] w (TryPost V B.house (if stay then (B.done line).house else B.house) w (B.would line)) := by
  obtain ⟨m, hm⟩ := hm
  by_cases h1 : (readP line).1 = 0
  · have hr : readR (readP line) = .tuple #[ifaceD (readP line).2, .int .i64 0] := by unfold readR; rw [if_pos h1]
    have hD := read_ok _ h1
    by_cases h2 : (doP B.house (readP line).2).1 = 0
    · have hw : B.would line = if B.lines.length = 100 then 16 else 0 := by
        unfold Book.would
        simp only []
        rw [if_neg (by simpa using h1), if_neg (by simpa using h2)]
      by_cases h3 : B.lines.length = 100
      · rw [if_pos h3] at hw
        have hd : B.done line = B := by unfold Book.done; rw [if_neg (by rw [hw]; decide)]
        rw [hw, hd, show (if stay then B.house else B.house) = B.house by cases stay <;> rfl]
        exact try_ok H I m hm line stay _ hD hr h2 16 B.house (Or.inl ⟨rfl, h3, rfl⟩)
      · rw [if_neg h3] at hw
        have hd : (B.done line).house = (doP B.house (readP line).2).2 := by unfold Book.done; rw [if_pos hw]
        rw [hw, hd]
        exact try_ok H I m hm line stay _ hD hr h2 0 _ (Or.inr ⟨rfl, h3, rfl⟩)
    · have hw : B.would line = (doP B.house (readP line).2).1 := by
        unfold Book.would
        simp only []
        rw [if_neg (by simpa using h1), if_pos h2]
      have hd : B.done line = B := by unfold Book.done; rw [if_neg (by rw [hw]; exact h2)]
      rw [hw, hd, show (if stay then B.house else B.house) = B.house by cases stay <;> rfl]
      exact try_err H I m hm line stay _ hD hr h2
  · have hw : B.would line = (readP line).1 := by
      unfold Book.would
      simp only []
      rw [if_pos h1]
    have hd : B.done line = B := by unfold Book.done; rw [if_neg (by rw [hw]; exact h1)]
    have hr : readR (readP line) = .tuple #[.nilIface, .int .i64 (readP line).1] := by unfold readR; rw [if_neg h1]
    rw [hw, hd, show (if stay then B.house else B.house) = B.house by cases stay <;> rfl]
    refine (try_bad H m hm line stay _ h1 hr).mono ?_
    rintro e w' ⟨he, hb⟩
    exact ⟨he, V, H.house.callee hb, rfl, Frm.below hb⟩
set_option maxRecDepth 100000 in
theorem would_any (H : BookAt w V gb vl B) (I : BInv B) (hm : MaxL w) (line : ByteArray) :
    Calls Tryz.prog 19 #[.pointer (some ⟨gb, 0, none⟩), .string line] w (BookPost V gb vl w B (B.would line)) := by
  have HT := Lib.hid (try_any H I hm line false)
  have HH := Lib.hid H
  obtain ⟨R, hR⟩ : ∃ R, B.would line = R := ⟨_, rfl⟩
  rw [hR] at HT ⊢
  clear hR H I hm
  go_enter Tryz.func19, Tryz.ntmps19
  go_wp2_with (go_at_call 64; (with_reducible refine HT.out.mono ?_); rintro e w1 ⟨rfl, V', h1, h2, h3⟩)
  go_ret
  exact ⟨rfl, V', vl, HH.out.turn h1 h2 h3, frm_book h3⟩
set_option maxRecDepth 100000 in
theorem do_any (H : BookAt w V gb vl B) (I : BInv B) (hm : MaxL w) (line : ByteArray) :
    Calls Tryz.prog 20 #[.pointer (some ⟨gb, 0, none⟩), .string line] w (BookPost V gb vl w (B.done line) (B.would line)) := by
  have HT := Lib.hid (try_any H I hm line true)
  have HH := Lib.hid H
  have HI := Lib.hid I
  obtain ⟨R, hR⟩ : ∃ R, B.would line = R := ⟨_, rfl⟩
  have HR := Lib.hid hR
  rw [hR] at HT ⊢
  by_cases h0 : R = 0
  · subst h0
    have HD : Hid (B.done line = ⟨(B.done line).house, B.lines ++ [line]⟩) := by
      rw [Hid]
      unfold Book.done
      rw [if_pos hR]
    clear hR H I hm
    go_enter Tryz.func20, Tryz.ntmps20
    go_wp2_with (first
      | (go_at_call 64; (with_reducible refine HT.out.mono ?_)
         rintro e w1 ⟨rfl, V', h1, h2, h3⟩
         rw [if_pos rfl] at h1
         have HB1 := Lib.hid (HH.out.turn h1 h2 h3)
         have HF1 := Lib.hid h3
         have c1 : w1.cell? ⟨gb, 1, none⟩ = some vl := HB1.out.bk.at_ 1 rfl
         clear h1 h2 h3)
      | (with_reducible show wpList _ _ _ (⟨_, .buildSlice 22 _ _, _, _, _, _⟩ :: _) _ _
         refine wpList_lit1 rfl 22 9 _ (.string line) rfl rfl (lit_str line) ?_
         intro w2 g2 hG2 hgr2 hge2
         have HB2 := Lib.hid (HB1.out.callee (below_grown hgr2))
         have hL : OwnS w2 0 vl B.lines := HB2.out.lines)
      | (at_builtin
         refine wpList_pushS rfl _ _ rfl rfl hL g2 1 line rfl hG2 (by have := HI.out.len; omega) (Nat.zero_le _) ?_
         intro g3 cap3 w3 hO3 hgr3 hat3 hlt3
         replace hgr3 : w2.grownBy w3 vl.ownBlock := hgr3
         replace hat3 : vl.ownBlock = some g3 ∨ g3 = w2.heap.size := hat3
         have oe : vl.ownBlock = blkOf vl := own_blkS hL
         rw [oe] at hgr3 hat3
         have s3 : ∀ i, i < w2.heap.size → blkOf vl ≠ some i → w3.heap[i]? = w2.heap[i]? := fun i hi h => hgr3.block i hi (fun e => h e.symm)
         have ngb : blkOf vl ≠ some gb := fun e => by
           have h := hL.blk_ne HB2.out.bk (by decide)
           rw [oe] at h
           exact h e
         have hB3 : Blk w3 gb 39 #[V' .house, vl] := (s3 gb HB2.out.bk.lt ngb).trans HB2.out.bk
         have c3 : w3.cell? ⟨gb, 1, none⟩ = some vl := hB3.at_ 1 rfl
         have f3 := hB3.frozen 1)
      | (with_reducible show wpList _ _ _ (⟨_, .store 22 _ _, _, _, _, _⟩ :: _) _ _
         refine wpList_setcellC rfl 22 _ _ rfl gb 1 (.slice (some ⟨g3, 0, none⟩) (B.lines.length + 1) cap3) rfl rfl (by go_simp) ?_
         obtain ⟨w4, hw4⟩ : ∃ w4, w3.setCell ⟨gb, 1, none⟩ (.slice (some ⟨g3, 0, none⟩) (B.lines.length + 1) cap3) = w4 := ⟨_, rfl⟩
         rw [hw4]
         have s4 : ∀ i, i ≠ gb → w4.heap[i]? = w3.heap[i]? := fun i hi => by rw [← hw4]; exact Below.heap_setCell w3 ⟨gb, 1, none⟩ _ i hi
         have x4 : w4.os = w3.os ∧ w4.tape = w3.tape ∧ w4.output = w3.output ∧ w4.heap.size = w3.heap.size := by rw [← hw4]; exact ⟨rfl, rfl, rfl, by simp⟩
         have hB4 : Blk w4 gb 39 #[V' .house, .slice (some ⟨g3, 0, none⟩) (B.lines.length + 1) cap3] := by rw [← hw4]; exact hB3.set_ 1 _
         clear hw4 c3 f3))
    go_ret
    have hz2 := hgr2.size
    have hz3 := hgr3.size
    have ng3 : ¬ Foot V' g3 ∧ g3 ≠ gb := by
      rcases hat3 with h | h
      · exact ⟨HB2.out.nl g3 h, fun e => ngb (by rw [← e]; exact h)⟩
      · refine ⟨fun hf => ?_, fun e => ?_⟩
        · have := HB2.out.house.lt hf; omega
        · have := HB2.out.bk.lt; omega
    have far : ∀ i, i < w2.heap.size → i ≠ gb → blkOf vl ≠ some i → w4.heap[i]? = w2.heap[i]? := fun i h1 h2 h3 => (s4 i h2).trans (s3 i h1 h3)
    refine ⟨rfl, V', .slice (some ⟨g3, 0, none⟩) (B.lines.length + 1) cap3, ?_, ?_⟩
    · rw [HD.out]
      refine ⟨HB2.out.house.same (fun i hi => far i (HB2.out.house.lt hi) (fun e => HB2.out.nb (by rw [← e]; exact hi)) (fun e => HB2.out.nl i e hi)), hB4, OwnS.same hO3 fun i hi => ?_, HB2.out.nb, fun g hg => ?_⟩
      · obtain rfl : g3 = i := by injection hi
        exact s4 g3 ng3.2
      · obtain rfl : g3 = g := by injection hg
        exact ng3.1
    · have hF := HF1.out
      have hlb := HH.out.bk.lt
      have hzz := hF.size
      refine ⟨x4.1.trans (hgr3.os.trans (hgr2.os.trans hF.os)), x4.2.1.trans (hgr3.tape.trans (hgr2.tape.trans hF.tape)), x4.2.2.1.trans (hgr3.output.trans (hgr2.output.trans hF.output)), by omega, fun i hi hn => ?_, fun i hi => ?_⟩
      · exact (far i (by omega) (fun e => hn (Or.inr (Or.inl e))) (fun e => hn (Or.inr (Or.inr e)))).trans ((hgr2.block i (by omega) (by simp)).trans (hF.block i hi (fun h => hn (Or.inl h))))
      · rcases hi with h | h | h
        · exact (hF.foot i h).imp Or.inl id
        · exact Or.inl (Or.inr (Or.inl h))
        · obtain rfl : g3 = i := by injection h
          rcases hat3 with h | h
          · exact Or.inl (Or.inr (Or.inr h))
          · exact Or.inr (by omega)
  · have HD : Hid (B.done line = B) := by
      rw [Hid]
      unfold Book.done
      rw [if_neg (by rw [hR]; exact h0)]
    have hR0 : (R == 0) = false := by simpa using h0
    clear hR H I hm
    go_enter Tryz.func20, Tryz.ntmps20
    go_wp2_with (go_at_call 64; (with_reducible refine HT.out.mono ?_)
                 rintro e w1 ⟨rfl, V', h1, h2, h3⟩
                 rw [if_pos rfl, HD.out] at h1
                 have HB1 := Lib.hid (HH.out.turn h1 h2 h3)
                 have HF1 := Lib.hid h3
                 clear h1 h2 h3)
    go_ret
    exact ⟨rfl, V', vl, by rw [HD.out]; exact HB1.out, frm_book HF1.out⟩
end
end Dr
end Go.Proofs.YtbgakdpbglpfaaaGreatDoor
-- the text DrMe
namespace Go.Proofs.YtbgakdpbglpfaaaGreatDoor
open Go.RowKit
namespace Dr
set_option linter.unusedSimpArgs false
section
variable {w w' : World} {V V' : Vals} {gb : Nat} {vl : Value} {B : Book} {S : House}
theorem empty_foot {gh gc go gu i : Nat} (h : Foot (emptyV gh gc go gu) i) : i = gh ∨ i = gc ∨ i = go ∨ i = gu := by
  obtain ⟨r, hr⟩ := h
  cases r <;> simp [emptyV, blkOf] at hr <;> omega
set_option maxRecDepth 100000 in
theorem founded_any (w : World) : Calls Tryz.prog 59 #[] w fun e w' => ∃ V, e = .returned (V .house) ∧ HouseAt w' V ⟨[], [], []⟩ ∧ Below w.heap.size w w' ∧ ∀ i, Foot V i → w.heap.size ≤ i := by
  have hmm := @run_makeMap Tryz.prog
  go_enter Tryz.func59, Tryz.ntmps59
  go_wp2_with (first
    | (with_reducible show wpList _ _ _ (⟨_, .box 111 _, _, _, _, _⟩ :: _) _ _
       refine wpList_box_cells rfl 111 _ rfl (.agg #[.slice none 0 0, .map (some w.heap.size), .map (some (w.heap.size + 1)), .map (some (w.heap.size + 1 + 1))]) #[.slice none 0 0, .map (some w.heap.size), .map (some (w.heap.size + 1)), .map (some (w.heap.size + 1 + 1))] rfl rfl ?_
       intro w4 g4 hG4 hgr4 hge4))
  go_ret
  have h1 : MapS (w.alloc (.map #[] 0)) w.heap.size (fun _ => none) := MapS.made w
  have h2 : MapS ((w.alloc (.map #[] 0)).alloc (.map #[] 0)) (w.heap.size + 1) (fun _ => none) := by
    have h := MapS.made (w.alloc (.map #[] 0))
    simpa using h
  have h3 : MapS (((w.alloc (.map #[] 0)).alloc (.map #[] 0)).alloc (.map #[] 0)) (w.heap.size + 1 + 1) (fun _ => none) := by
    have h := MapS.made ((w.alloc (.map #[] 0)).alloc (.map #[] 0))
    simpa using h
  have hz4 : w.heap.size + 3 ≤ g4 := by
    have : (((w.alloc (.map #[] 0)).alloc (.map #[] 0)).alloc (.map #[] 0)).heap.size = w.heap.size + 3 := by simp
    omega
  have s1 : MapS w4 w.heap.size (fun _ => none) := h1.same ((hgr4.block _ (by simp; omega) (by simp)).trans ((Below.heap_alloc _ _ _ (by simp; omega)).trans (Below.heap_alloc _ _ _ (by simp))))
  have s2 : MapS w4 (w.heap.size + 1) (fun _ => none) := h2.same ((hgr4.block _ (by simp) (by simp)).trans (Below.heap_alloc _ _ _ (by simp)))
  have s3 : MapS w4 (w.heap.size + 1 + 1) (fun _ => none) := h3.same (hgr4.block _ (by simp) (by simp))
  refine ⟨emptyV g4 w.heap.size (w.heap.size + 1) (w.heap.size + 1 + 1), rfl, HouseAt.empty hG4 s1 s2 s3 (by omega) (by omega) (by omega), ?_, fun i hi => by have := empty_foot hi; omega⟩
  have hb : Below w.heap.size w (((w.alloc (.map #[] 0)).alloc (.map #[] 0)).alloc (.map #[] 0)) := (((Below.refl _ _).alloc (Nat.le_refl _) _).alloc (by simp) _).alloc (by simp; omega) _
  exact below_none hb hgr4 (by simp; omega)
set_option maxRecDepth 100000 in
theorem new_any (w : World) : Calls Tryz.prog 15 #[] w fun e w' => ∃ V gb, e = .returned (.pointer (some ⟨gb, 0, none⟩)) ∧ BookAt w' V gb (.slice none 0 0) Book.new ∧ Below w.heap.size w w' ∧ ∀ i, BFoot V gb (.slice none 0 0) i → w.heap.size ≤ i := by
  have HF := Lib.hid (founded_any w)
  go_enter Tryz.func15, Tryz.ntmps15
  go_wp2_with (first
    | (go_at_call 59; (with_reducible refine HF.out.mono ?_)
       rintro e w1 ⟨V, rfl, h1, h2, h3⟩
       obtain ⟨gh, hV, _⟩ := h1.hs
       rw [hV]
       have HV := Lib.hid hV
       clear hV
       have HH1 := Lib.hid h1
       have HB1 := Lib.hid h2
       have HL1 := Lib.hid h3
       clear h1 h2 h3)
    | (with_reducible show wpList _ _ _ (⟨_, .box 39 _, _, _, _, _⟩ :: _) _ _
       refine wpList_box_cells rfl 39 _ rfl (.agg #[.pointer (some ⟨gh, 0, none⟩), .slice none 0 0]) #[.pointer (some ⟨gh, 0, none⟩), .slice none 0 0] rfl rfl ?_
       intro w2 g2 hG2 hgr2 hge2))
  go_ret
  have hb := below_grown hgr2
  have hz := HB1.out.size
  refine ⟨V, g2, rfl, ⟨HH1.out.callee hb, by rw [HV.out]; exact hG2, OwnS.nil _ _, fun hf => by have := HH1.out.lt hf; omega, fun g hg => by cases hg⟩, HB1.out.trans (hb.mono hz), fun i hi => ?_⟩
  rcases hi with h | rfl | h
  · exact HL1.out i h
  · omega
  · cases h
end
end Dr
end Go.Proofs.YtbgakdpbglpfaaaGreatDoor
-- the text DrMf
namespace Go.Proofs.YtbgakdpbglpfaaaGreatDoor
open Go.RowKit
namespace Dr
set_option linter.unusedSimpArgs false
section
variable {w w' : World} {V V' : Vals} {gb : Nat} {vl : Value} {B : Book} {S : House}
set_option maxRecDepth 100000 in
theorem cleared_any (H : HouseAt w V S) : Calls Tryz.prog 62 #[V .house] w fun e w' => e = .returned (.tuple #[]) ∧ ∃ V', HouseAt w' V' ⟨[], [], []⟩ ∧ V' .house = V .house ∧ Frm (Foot V) w (Foot V') w' := by
  obtain ⟨gh, hV, hB⟩ := H.hs
  obtain ⟨gc, hVc, hMc⟩ := H.mc
  obtain ⟨go, hVo, hMo⟩ := H.mo
  obtain ⟨gu, hVu, hMu⟩ := H.mu
  rw [hVc, hVo, hVu] at hB
  obtain ⟨vn, hvn⟩ : ∃ vn, V .names = vn := ⟨_, rfl⟩
  rw [hvn] at hB
  have bh : blkOf (V .house) = some gh := by rw [hV]; rfl
  have bc : blkOf (V .chests) = some gc := by rw [hVc]; rfl
  have bo : blkOf (V .out) = some go := by rw [hVo]; rfl
  have bu : blkOf (V .used) = some gu := by rw [hVu]; rfl
  have HN : Hid ((gh ≠ gc ∧ gh ≠ go ∧ gh ≠ gu) ∧ gc ≠ go ∧ gc ≠ gu ∧ go ≠ gu) := ⟨⟨H.ne_ bh bc (by simp), H.ne_ bh bo (by simp), H.ne_ bh bu (by simp)⟩, H.ne_ bc bo (by simp), H.ne_ bc bu (by simp), H.ne_ bo bu (by simp)⟩
  have HFT : Hid (Foot V gh ∧ Foot V gc ∧ Foot V go ∧ Foot V gu) := ⟨⟨_, bh⟩, ⟨_, bc⟩, ⟨_, bo⟩, ⟨_, bu⟩⟩
  have HBB := Lib.hid hB
  have HMC := Lib.hid hMc
  have HMO := Lib.hid hMo
  have HMU := Lib.hid hMu
  have c0 : w.cell? ⟨gh, 0, none⟩ = some vn := hB.at_ 0 rfl
  have f0 := hB.frozen 0
  rw [hV]
  clear hB hMc hMo hMu hVc hVo hVu bh bc bo bu H
  go_enter Tryz.func62, Tryz.ntmps62
  go_wp2_with (first
    | (with_reducible show wpList _ _ _ (⟨_, .store 22 _ _, _, _, _, _⟩ :: _) _ _
       refine wpList_setcellC rfl 22 _ _ rfl gh 0 (.slice none 0 0) rfl rfl (by go_simp) ?_
       obtain ⟨w1, hw1⟩ : ∃ w1, w.setCell ⟨gh, 0, none⟩ (.slice none 0 0) = w1 := ⟨_, rfl⟩
       rw [hw1]
       have hB1 : Blk w1 gh 111 #[.slice none 0 0, .map (some gc), .map (some go), .map (some gu)] := by rw [← hw1]; exact HBB.out.set_ 0 _
       have s1 : ∀ i, i ≠ gh → w1.heap[i]? = w.heap[i]? := fun i hi => by rw [← hw1]; exact Below.heap_setCell w ⟨gh, 0, none⟩ _ i hi
       have x1 : w1.os = w.os ∧ w1.tape = w.tape ∧ w1.output = w.output ∧ w1.heap.size = w.heap.size := by rw [← hw1]; exact ⟨rfl, rfl, rfl, by simp⟩
       have c1 : w1.cell? ⟨gh, 1, none⟩ = some (.map (some gc)) := hB1.at_ 1 rfl
       clear hw1 c0 f0)
    | (with_reducible show wpList _ _ _ (⟨_, .call { callee := .builtin .clear, args := _, argTypes := #[107] }, _, _, _, _⟩ :: _) _ _
       refine wpList_mapclear rfl 107 9 98 _ rfl Tryz.underlying107 gc _ rfl (HMC.out.same (s1 gc (Ne.symm HN.out.1.1))) ?_
       intro w2 hM2 hgr2
       have hB2 : Blk w2 gh 111 #[.slice none 0 0, .map (some gc), .map (some go), .map (some gu)] := hB1.some_ hgr2 HN.out.1.1
       have c2 : w2.cell? ⟨gh, 2, none⟩ = some (.map (some go)) := hB2.at_ 2 rfl)
    | (with_reducible show wpList _ _ _ (⟨_, .call { callee := .builtin .clear, args := _, argTypes := #[108] }, _, _, _, _⟩ :: _) _ _
       refine wpList_mapclear rfl 108 9 105 _ rfl Tryz.underlying108 go _ rfl (HMO.out.same ((hgr2.block go (by have := HMO.out.lt; omega) (fun e => HN.out.2.1 (Option.some.inj e).symm)).trans (s1 go (Ne.symm HN.out.1.2.1)))) ?_
       intro w3 hM3 hgr3
       have hB3 : Blk w3 gh 111 #[.slice none 0 0, .map (some gc), .map (some go), .map (some gu)] := hB2.some_ hgr3 HN.out.1.2.1
       have hM23 : MapS w3 gc (fun _ => none) := hM2.same (hgr3.block gc hM2.lt (fun e => HN.out.2.1 (Option.some.inj e)))
       have c3 : w3.cell? ⟨gh, 3, none⟩ = some (.map (some gu)) := hB3.at_ 3 rfl)
    | (with_reducible show wpList _ _ _ (⟨_, .call { callee := .builtin .clear, args := _, argTypes := #[109] }, _, _, _, _⟩ :: _) _ _
       refine wpList_mapclear rfl 109 9 4 _ rfl Tryz.underlying109 gu _ rfl (HMU.out.same ((hgr3.block gu (by have := HMU.out.lt; have := hgr2.size; omega) (fun e => HN.out.2.2.2 (Option.some.inj e).symm)).trans ((hgr2.block gu (by have := HMU.out.lt; omega) (fun e => HN.out.2.2.1 (Option.some.inj e).symm)).trans (s1 gu (Ne.symm HN.out.1.2.2))))) ?_
       intro w4 hM4 hgr4
       have hB4 : Blk w4 gh 111 #[.slice none 0 0, .map (some gc), .map (some go), .map (some gu)] := hB3.some_ hgr4 HN.out.1.2.2
       have hM24 : MapS w4 gc (fun _ => none) := hM23.same (hgr4.block gc hM23.lt (fun e => HN.out.2.2.1 (Option.some.inj e)))
       have hM34 : MapS w4 go (fun _ => none) := hM3.same (hgr4.block go hM3.lt (fun e => HN.out.2.2.2 (Option.some.inj e)))))
  go_end0
  have z2 := hgr2.size
  have z3 := hgr3.size
  have z4 := hgr4.size
  refine ⟨rfl, emptyV gh gc go gu, HouseAt.empty hB4 hM24 hM34 hM4 HN.out.2.1 HN.out.2.2.1 HN.out.2.2.2, rfl, ⟨hgr4.os.trans (hgr3.os.trans (hgr2.os.trans x1.1)), hgr4.tape.trans (hgr3.tape.trans (hgr2.tape.trans x1.2.1)), hgr4.output.trans (hgr3.output.trans (hgr2.output.trans x1.2.2.1)), by omega, fun i hi hn => ?_, fun i hi => ?_⟩⟩
  · have n1 : i ≠ gh := fun e => hn (by rw [e]; exact HFT.out.1)
    have n2 : i ≠ gc := fun e => hn (by rw [e]; exact HFT.out.2.1)
    have n3 : i ≠ go := fun e => hn (by rw [e]; exact HFT.out.2.2.1)
    have n4 : i ≠ gu := fun e => hn (by rw [e]; exact HFT.out.2.2.2)
    exact (hgr4.block i (by omega) (fun e => n4 (Option.some.inj e))).trans ((hgr3.block i (by omega) (fun e => n3 (Option.some.inj e))).trans ((hgr2.block i (by omega) (fun e => n2 (Option.some.inj e))).trans (s1 i n1)))
  · rcases empty_foot hi with rfl | rfl | rfl | rfl
    · exact Or.inl HFT.out.1
    · exact Or.inl HFT.out.2.1
    · exact Or.inl HFT.out.2.2.1
    · exact Or.inl HFT.out.2.2.2
theorem MaxL.later (h : MaxL w) (hb : w'.heap[3]? = w.heap[3]?) : MaxL w' := by
  obtain ⟨m, hm⟩ := h
  refine ⟨m, ?_⟩
  unfold World.cell? at hm ⊢
  rw [hb]
  exact hm
theorem MaxL.below (h : MaxL w) (hb : Below w.heap.size w w') : MaxL w' := h.later (hb.block _ (by obtain ⟨m, hm⟩ := h; exact lt_cell hm))
theorem MaxL.lt (h : MaxL w) : 3 < w.heap.size := by obtain ⟨m, hm⟩ := h; exact lt_cell hm
theorem told_snoc (ls : List ByteArray) (x : ByteArray) : Book.told (ls ++ [x]) = (Book.told ls).done x := by
  unfold Book.told
  rw [List.foldl_append]
  rfl
set_option maxRecDepth 100000 in
theorem undo_none (H : BookAt w V gb vl B) (h : B.lines = []) :
    Calls Tryz.prog 17 #[.pointer (some ⟨gb, 0, none⟩)] w (BookPost V gb vl w B.undo.2 B.undo.1) := by
  have hu : B.undo = (4, B) := by unfold Book.undo; rw [h]; rfl
  rw [hu]
  obtain ⟨gh, hV, _⟩ := H.house.hs
  have hbk := H.bk
  rw [hV] at hbk
  obtain ⟨A, c, hvl, _⟩ := ownS_form H.lines
  rw [h] at hvl
  have HH := Lib.hid H
  have HNO := Lib.hid (none_no hbk)
  have c1 : w.cell? ⟨gb, 1, none⟩ = some (.slice A 0 c) := by
    rw [show (0 : Nat) = ([] : List ByteArray).length from rfl, ← hvl]
    exact hbk.at_ 1 rfl
  clear hV hbk hvl H h hu
  go_enter Tryz.func17, Tryz.ntmps17
  go_wp2_with (go_at_call 60; (with_reducible refine HNO.out.mono ?_); rintro e w3 ⟨rfl, hw3⟩; replace hw3 := hw3.symm; subst hw3)
  go_ret
  exact .quiet HH.out rfl (Below.refl _ _)
set_option maxRecDepth 100000 in
set_option maxHeartbeats 4000000 in
theorem undo_some (H : BookAt w V gb vl B) (I : BInv B) (hm : MaxL w) (hlo : ∀ i, BFoot V gb vl i → 3 < i) (h : B.lines ≠ []) :
    Calls Tryz.prog 17 #[.pointer (some ⟨gb, 0, none⟩)] w (BookPost V gb vl w B.undo.2 B.undo.1) := by
  have hu : B.undo = (0, Book.told B.lines.dropLast) := by
    unfold Book.undo
    rw [if_neg (by cases hb : B.lines with
      | nil => exact absurd hb h
      | cons a l => simp)]
  rw [hu]
  obtain ⟨gh, hV, _⟩ := H.house.hs
  have hbk := H.bk
  rw [hV] at hbk
  obtain ⟨A, c, hvl, hc1, hc2, _, hA⟩ := ownS_form H.lines
  have hpos : 0 < B.lines.length := List.length_pos_iff.2 h
  obtain ⟨gl, rfl⟩ := hA hpos
  have hlen := I.len
  obtain ⟨n, hn⟩ : ∃ n, B.lines.length = n + 1 := ⟨B.lines.length - 1, by omega⟩
  have hdl : B.lines.take n = B.lines.dropLast := by rw [List.dropLast_eq_take, hn]; rfl
  rw [hn] at hvl hc1 hlen
  have HH := Lib.hid H
  have HMM := Lib.hid hm
  have HLO := Lib.hid hlo
  have HNO := Lib.hid (none_no hbk)
  have HGB : Hid (Blk w gb 39 #[.pointer (some ⟨gh, 0, none⟩), .slice (some ⟨gl, 0, none⟩) (n + 1) c]) := by rw [← hvl]; exact hbk
  have hll := H.lines
  rw [hvl] at hll
  have htk := ownS_take hll hn.symm (show n ≤ B.lines.length by omega)
  rw [hdl] at htk
  have HTK := Lib.hid htk
  obtain ⟨ls, hls⟩ : ∃ ls, B.lines.dropLast = ls := ⟨_, rfl⟩
  rw [hls] at HTK ⊢
  have hnl : ls.length = n := by rw [← hls, List.length_dropLast, hn]; rfl
  have HNL := Lib.hid hnl
  have HVL := Lib.hid hvl
  have HV := Lib.hid hV
  have hw1 : IntKind.i64.wrap ((n : Int)) = n := IntWalk.i64_in _ (by omega)
  have hn0 : (0 : Int) ≤ n := by omega
  have hnc : n ≤ n + 1 := Nat.le_succ n
  have hnc2 : n ≤ c := by omega
  have hne0 : ((n : Int) + 1 == 0) = false := by simp; omega
  have c1 : w.cell? ⟨gb, 1, none⟩ = some (.slice (some ⟨gl, 0, none⟩) (n + 1) c) := HGB.out.at_ 1 rfl
  unfold maxLen at hc2
  clear hV hbk hvl H h hu I hm hlo hll htk hls hnl hdl hA
  go_enter Tryz.func17, Tryz.ntmps17
  go_wp2_with (go_at_call 60; (with_reducible refine HNO.out.mono ?_); rintro e w3 ⟨rfl, hw3⟩; replace hw3 := hw3.symm; subst hw3)
  have CB := Lib.hid c1
  clear c1
  refine De.region_tree (fun b w' => bif b then (True) else (w'.cell? ⟨gb, 1, none⟩ = some (.slice (some ⟨gl, 0, none⟩) (n + 1) c) ∧ True)) 11 1 (by kernel_rfl) (by kernel_rfl) (by decide) ⟨CB.out, trivial⟩ ?_
  (try simp only [Act.put, De.l0, De.l1, De.l2])
  refine De.MidT.read (o := ?o1) (v := ?v1) 0 (by decide) ?q1 (by kernel_rfl) (by kernel_rfl) ?w1 (by kernel_rfl) ?y1 ?h1
  case q1 => (simp only [De.g0, De.g1, De.g2]; rfl)
  case w1 => kernel_rfl
  case y1 => (intro w' hw'; obtain ⟨x1, _⟩ := hw'; go_simp; (try with_reducible rfl))
  (try simp only [Act.put, De.l0, De.l1, De.l2])
  refine De.MidT.read (o := ?o2) (v := ?v2) 1 (by decide) ?q2 (by kernel_rfl) (by kernel_rfl) ?w2 (by kernel_rfl) ?y2 ?h2
  case q2 => (simp only [De.g0, De.g1, De.g2]; rfl)
  case w2 => kernel_rfl
  case y2 => (intro w' hw'; obtain ⟨x1, _⟩ := hw'; go_simp; (try with_reducible rfl))
  (try simp only [Act.put, De.l0, De.l1, De.l2])
  refine De.MidT.read (o := ?o3) (v := ?v3) 2 (by decide) ?q3 (by kernel_rfl) (by kernel_rfl) ?w3 (by kernel_rfl) ?y3 ?h3
  case q3 => (simp only [De.g0, De.g1, De.g2]; rfl)
  case w3 => kernel_rfl
  case y3 => (intro w' hw'; obtain ⟨x1, _⟩ := hw'; go_simp; (try with_reducible rfl))
  (try simp only [Act.put, De.l0, De.l1, De.l2])
  refine De.MidT.read (o := ?o4) (v := ?v4) 3 (by decide) ?q4 (by kernel_rfl) (by kernel_rfl) ?w4 (by kernel_rfl) ?y4 ?h4
  case q4 => (simp only [De.g0, De.g1, De.g2]; rfl)
  case w4 => kernel_rfl
  case y4 => (intro w' hw'; obtain ⟨x1, _⟩ := hw'; go_simp; (try with_reducible rfl))
  (try simp only [Act.put, De.l0, De.l1, De.l2])
  refine De.MidT.read (o := ?o5) (v := ?v5) 4 (by decide) ?q5 (by kernel_rfl) (by kernel_rfl) ?w5 (by kernel_rfl) ?y5 ?h5
  case q5 => (simp only [De.g0, De.g1, De.g2]; rfl)
  case w5 => kernel_rfl
  case y5 => (intro w' hw'; obtain ⟨x1, _⟩ := hw'; go_simp; (try with_reducible rfl))
  (try simp only [Act.put, De.l0, De.l1, De.l2])
  refine De.MidT.read (o := ?o6) (v := ?v6) 5 (by decide) ?q6 (by kernel_rfl) (by kernel_rfl) ?w6 (by kernel_rfl) ?y6 ?h6
  case q6 => (simp only [De.g0, De.g1, De.g2]; rfl)
  case w6 => kernel_rfl
  case y6 => (intro w' hw'; obtain ⟨x1, _⟩ := hw'; go_simp; (try with_reducible rfl))
  (try simp only [Act.put, De.l0, De.l1, De.l2])
  refine De.MidT.read (o := ?o7) (v := ?v7) 6 (by decide) ?q7 (by kernel_rfl) (by kernel_rfl) ?w7 (by kernel_rfl) ?y7 ?h7
  case q7 => (simp only [De.g0, De.g1, De.g2]; rfl)
  case w7 => kernel_rfl
  case y7 => (intro w' hw'; obtain ⟨x1, _⟩ := hw'; go_simp; (try with_reducible rfl))
  (try simp only [Act.put, De.l0, De.l1, De.l2])
  refine De.MidT.read (o := ?o8) (v := ?v8) 7 (by decide) ?q8 (by kernel_rfl) (by kernel_rfl) ?w8 (by kernel_rfl) ?y8 ?h8
  case q8 => (simp only [De.g0, De.g1, De.g2]; rfl)
  case w8 => kernel_rfl
  case y8 => (intro w' hw'; obtain ⟨x1, _⟩ := hw'; go_simp; (try with_reducible rfl))
  (try simp only [Act.put, De.l0, De.l1, De.l2])
  refine De.MidT.read (o := ?o9) (v := ?v9) 8 (by decide) ?q9 (by kernel_rfl) (by kernel_rfl) ?w9 (by kernel_rfl) ?y9 ?h9
  case q9 => (simp only [De.g0, De.g1, De.g2]; rfl)
  case w9 => kernel_rfl
  case y9 => (intro w' hw'; obtain ⟨x1, _⟩ := hw'; go_simp; (try with_reducible rfl))
  (try simp only [Act.put, De.l0, De.l1, De.l2])
  refine De.MidT.read (o := ?o10) (v := ?v10) 9 (by decide) ?q10 (by kernel_rfl) (by kernel_rfl) ?w10 (by kernel_rfl) ?y10 ?h10
  case q10 => (simp only [De.g0, De.g1, De.g2]; rfl)
  case w10 => kernel_rfl
  case y10 => (intro w' hw'; obtain ⟨x1, _⟩ := hw'; go_simp; (try with_reducible rfl))
  (try simp only [Act.put, De.l0, De.l1, De.l2])
  refine De.MidT.read (o := ?o11) (v := ?v11) 10 (by decide) ?q11 (by kernel_rfl) (by kernel_rfl) ?w11 (by kernel_rfl) ?y11 ?h11
  case q11 => (simp only [De.g0, De.g1, De.g2]; rfl)
  case w11 => kernel_rfl
  case y11 => (intro w' hw'; obtain ⟨x1, _⟩ := hw'; go_simp; (try with_reducible rfl))
  (try simp only [Act.put, De.l0, De.l1, De.l2])
  (try refine De.MidT.tail ?_)
  refine De.Tr.one (i := 11) (o := ?o12) (by kernel_rfl) ?q12 ?g12 ?h12
  case q12 => (simp only [De.g0, De.g1, De.g2]; rfl)
  case g12 => rfl
  refine wp_enterK 61 #[.slice (some ⟨gl, 0, none⟩) n c] (by go_simp) (cloneS_any (OwnS.drew HTK.out) (by rw [HNL.out]; omega)) ?_
  rintro e w4 ⟨vc, rfl, hN4, hb4⟩
  refine ⟨_, rfl, ⟨_, rfl⟩, trivial, ?_⟩
  have HN4 : Hid (NewT w w4 vc ls) := hN4
  have HB4 : Hid (Below w.heap.size w w4) := (Below.refl _ _).drew.trans hb4
  obtain ⟨Ac, cc, hvc, hcc1, hcc2, hcr, hAc⟩ := ownS_form hN4.1
  rw [HNL.out] at hvc hcc1 hAc
  subst hvc
  have HAC := Lib.hid hAc
  clear hN4 hb4 hcr hAc
  (try simp only [Act.put, De.l0, De.l1, De.l2])
  refine De.MidT.read2 (o := ?o13) (v := ?v13) 12 (by decide) ?q13 (by kernel_rfl) (by kernel_rfl) ?w13 ?y13 ?h13
  case q13 => (simp only [De.g0, De.g1, De.g2]; rfl)
  case w13 => kernel_rfl
  case y13 => (intro b w' hw'; clear hw'; go_simp; (try with_reducible rfl))
  (try simp only [Act.put, De.l0, De.l1, De.l2])
  (try refine De.MidT.tail ?_)
  refine De.Tr.done (by kernel_rfl) ?_
  (try simp only [Act.put, De.l0, De.l1, De.l2])
  have c4 : w4.cell? ⟨gb, 0, none⟩ = some (.pointer (some ⟨gh, 0, none⟩)) := (HGB.out.callee HB4.out).at_ 0 rfl
  have hcl := cleared_any (HH.out.house.callee HB4.out)
  rw [HV.out] at hcl
  have HCL := Lib.hid hcl
  clear hcl
  go_wp2_with (first
    | (go_at_call 62; (with_reducible refine HCL.out.mono ?_)
       rintro e w5 ⟨rfl, V', h1, h2, h3⟩
       have HH5 := Lib.hid h1
       have HV5 := Lib.hid h2
       have HF5 := Lib.hid h3
       have hB5 : Blk w5 gb 39 #[.pointer (some ⟨gh, 0, none⟩), .slice (some ⟨gl, 0, none⟩) (n + 1) c] := (h3.block gb (HGB.out.callee HB4.out).lt HH.out.nb).trans (HGB.out.callee HB4.out)
       have c5 : w5.cell? ⟨gb, 1, none⟩ = some (.slice (some ⟨gl, 0, none⟩) (n + 1) c) := hB5.at_ 1 rfl
       have f5 := hB5.frozen 1
       clear h1 h2 h3 c4)
    | (with_reducible show wpList _ _ _ (⟨_, .store 22 _ _, _, _, _, _⟩ :: _) _ _
       refine wpList_setcellC rfl 22 _ _ rfl gb 1 (.slice none 0 0) rfl rfl (by go_simp) ?_
       obtain ⟨w6, hw6⟩ : ∃ w6, w5.setCell ⟨gb, 1, none⟩ (.slice none 0 0) = w6 := ⟨_, rfl⟩
       rw [hw6]
       have s6 : ∀ i, i ≠ gb → w6.heap[i]? = w5.heap[i]? := fun i hi => by rw [← hw6]; exact Below.heap_setCell w5 ⟨gb, 1, none⟩ _ i hi
       have x6 : w6.os = w5.os ∧ w6.tape = w5.tape ∧ w6.output = w5.output ∧ w6.heap.size = w5.heap.size := by rw [← hw6]; exact ⟨rfl, rfl, rfl, by simp⟩
       have hB6 : Blk w6 gb 39 #[.pointer (some ⟨gh, 0, none⟩), .slice none 0 0] := by rw [← hw6]; exact hB5.set_ 1 _
       clear hw6 c5 f5))
  have hz4 := HB4.out.size
  have hz5 : w4.heap.size ≤ w5.heap.size := HF5.out.size
  have ngb : ¬ Foot V' gb := fun hf => by
    rcases HF5.out.foot gb hf with h | h
    · exact HH.out.nb h
    · have := HGB.out.lt
      omega
  have HB6 : Hid (BookAt w6 V' gb (.slice none 0 0) Book.new) := ⟨HH5.out.same (fun i hi => s6 i (fun e => ngb (by rw [← e]; exact hi))), by rw [HV5.out]; exact hB6, OwnS.nil _ _, ngb, fun g hg => by cases hg⟩
  have HF6 : Hid (Frm (BFoot V gb vl) w (BFoot V' gb (.slice none 0 0)) w6) := by
    refine ⟨x6.1.trans (HF5.out.os.trans HB4.out.os), x6.2.1.trans (HF5.out.tape.trans HB4.out.tape), x6.2.2.1.trans (HF5.out.output.trans HB4.out.output), by omega, fun i hi hn => ?_, fun i hi => ?_⟩
    · exact (s6 i (fun e => hn (Or.inr (Or.inl e)))).trans ((HF5.out.block i (by omega) (fun h => hn (Or.inl h))).trans (HB4.out.block i hi))
    · rcases hi with h | h | h
      · exact (HF5.out.foot i h).imp Or.inl (fun h => by omega)
      · exact Or.inl (Or.inr (Or.inl h))
      · cases h
  have HC6 : Hid (OwnT w6 (.slice Ac n cc) ls ∧ ∀ g, blkOf (.slice Ac n cc) = some g → ¬ BFoot V' gb (.slice none 0 0) g) := by
    have nb : ∀ g, blkOf (.slice Ac n cc) = some g → w.heap.size ≤ g ∧ g < w4.heap.size := fun g hg => ⟨HN4.out.2 g hg, ownS_lt HN4.out.1 hg⟩
    refine ⟨OwnS.same HN4.out.1 fun g hg => (s6 g (fun e => by have := nb g hg; have := HGB.out.lt; omega)).trans (HF5.out.block g (nb g hg).2 (fun hf => by have := HH.out.house.lt hf; have := nb g hg; omega)), fun g hg hf => ?_⟩
    have := nb g hg
    rcases hf with h | h | h
    · rcases HF5.out.foot g h with h | h
      · have := HH.out.house.lt h; omega
      · omega
    · have := HGB.out.lt; omega
    · cases h
  clear hB5 hB6 s6 x6 hz4 hz5 ngb
  go_loopw [38] (fun v wr => ∃ (i : Nat) (V1 : Vals) (vl1 : Value), i ≤ n ∧ v = .int .i64 (i : Int) ∧ Hid (BookAt wr V1 gb vl1 (Book.told (ls.take i))) ∧ Hid (Frm (BFoot V gb vl) w (BFoot V1 gb vl1) wr) ∧ Hid (OwnT wr (.slice Ac n cc) ls ∧ ∀ g, blkOf (.slice Ac n cc) = some g → ¬ BFoot V1 gb vl1 g)) (fun v _ => n - (intOf v).toNat)
  case atStart => exact ⟨0, V', .slice none 0 0, Nat.zero_le _, rfl, HB6.out, HF6.out, HC6.out⟩
  case round =>
    obtain ⟨i, V1, vl1, hin, rfl, hBR, hFR, hCR⟩ := hrel
    by_cases hlt : i < n
    · have hlti : (i : Int) < n := by omega
      have hi0 : (0 : Int) ≤ i := by omega
      obtain ⟨ga, rfl⟩ := HAC.out (by omega)
      obtain ⟨x, hx⟩ : ∃ x, ls[i]? = some x := ⟨_, List.getElem?_eq_getElem (by rw [HNL.out]; exact hlt)⟩
      have cx : wr.cell? ⟨ga, i, none⟩ = some (.string x) := by
        obtain ⟨g', c', e', _, hc⟩ := ownT_cell hCR.out.1 hx
        injection e' with e1
        injection e1 with e1
        injection e1 with e1
        rw [e1]
        exact hc
      have hmr : MaxL wr := HMM.out.later (hFR.out.block _ HMM.out.lt (fun hf => Nat.lt_irrefl _ (HLO.out _ hf)))
      have HDO := Lib.hid (do_any hBR.out (BInv.told _) hmr x)
      have HNX : Hid (Book.told (ls.take (i + 1)) = (Book.told (ls.take i)).done x) := by rw [Hid, List.take_add_one, hx]; exact told_snoc _ _
      clear hx hmr
      go_wp2_with (go_at_call 20; (with_reducible refine HDO.out.mono ?_); rintro e w9 ⟨rfl, V2, vl2, h1, h2⟩)
      go_roundw
      case rel =>
        refine ⟨i + 1, V2, vl2, by omega, by go_num, by rw [HNX.out]; exact h1, hFR.out.trans h2, ?_⟩
        refine ⟨OwnS.same hCR.out.1 fun g hg => h2.block g (ownS_lt hCR.out.1 hg) (hCR.out.2 g hg), fun g hg hf => ?_⟩
        rcases h2.foot g hf with h | h
        · exact hCR.out.2 g hg h
        · have := ownS_lt hCR.out.1 hg
          omega
      case measure => simp only [intOf]; omega
    · have hlti : ¬ (i : Int) < n := by omega
      obtain rfl : i = n := by omega
      have HBE : Hid (BookAt wr V1 gb vl1 (Book.told ls)) := by
        have h := hBR.out
        rw [List.take_of_length_le (by rw [HNL.out]; exact Nat.le_refl _)] at h
        exact h
      go_wp2_with (fail)
      go_ret
      exact ⟨rfl, V1, vl1, HBE.out, hFR.out⟩
theorem undo_any (H : BookAt w V gb vl B) (I : BInv B) (hm : MaxL w) (hlo : ∀ i, BFoot V gb vl i → 3 < i) :
    Calls Tryz.prog 17 #[.pointer (some ⟨gb, 0, none⟩)] w (BookPost V gb vl w B.undo.2 B.undo.1) := by
  by_cases h : B.lines = []
  · exact undo_none H h
  · exact undo_some H I hm hlo h
end
end Dr
end Go.Proofs.YtbgakdpbglpfaaaGreatDoor
