/- The texts DrMb to DrMc, joined by joinlist.py: their statements say what each proves. -/
import Derived.Test.YtbgakdpbglpfaaaGreatDoorJld
import Derived.Laws.EntriesVeiled
-- the text DrMb
namespace Go.Proofs.YtbgakdpbglpfaaaGreatDoor
open Go.RowKit
namespace Dr
set_option linter.unusedSimpArgs false
section
variable {w : World}
set_option maxRecDepth 100000 in
theorem after_keep {g1 g2 g8 : Nat} {u : FrameMode} (h1 : w.cell? ⟨g1, 0, none⟩ = some (.bool true)) (h2 : w.cell? ⟨g2, 0, none⟩ = some (.int .i64 0)) :
    CallsD Tryz.prog 93 #[.pointer (some ⟨g1, 0, none⟩), .pointer (some ⟨g2, 0, none⟩), .pointer (some ⟨g8, 0, none⟩)] u w fun e u' w' => u' = u ∧ (e = .returned (.tuple #[]) ∧ w' = w) := by
  go_enter_d Tryz.func93, Tryz.ntmps93
  go_wp2_with (fail)
  go_end0
  exact ⟨rfl, rfl⟩
set_option maxRecDepth 100000 in
theorem after_undo {g1 g2 g8 : Nat} {u : FrameMode} {stay : Bool} {E : Int} {f : FuncId} {cap : Array Value} {R : Ending → World → Prop} (h1 : w.cell? ⟨g1, 0, none⟩ = some (.bool stay)) (h2 : w.cell? ⟨g2, 0, none⟩ = some (.int .i64 E)) (h3 : w.cell? ⟨g8, 0, none⟩ = some (.func (.func f) #[] cap)) (hs : stay = false ∨ E ≠ 0)
    (he : ∀ args w, (callFunc f args).run Tryz.prog w = .ok (.enter f args) w) (hc : Calls Tryz.prog f cap w fun e w' => e = .returned (.tuple #[]) ∧ R e w') :
    CallsD Tryz.prog 93 #[.pointer (some ⟨g1, 0, none⟩), .pointer (some ⟨g2, 0, none⟩), .pointer (some ⟨g8, 0, none⟩)] u w fun e u' w' => u' = u ∧ (e = .returned (.tuple #[]) ∧ R e w') := by
  have HC := Lib.hid hc
  clear hc
  cases stay with
  | false =>
    clear hs
    go_enter_d Tryz.func93, Tryz.ntmps93
    go_wp2_with (go_at_fn f; refine HC.out.mono ?_; rintro e w1 ⟨rfl, hR⟩)
    go_end0
    exact ⟨rfl, hR⟩
  | true =>
    have hE : (E != 0) = true := by rcases hs with h | h; cases h; simpa using h
    clear hs
    go_enter_d Tryz.func93, Tryz.ntmps93
    go_wp2_with (go_at_fn f; refine HC.out.mono ?_; rintro e w1 ⟨rfl, hR⟩)
    go_end0
    exact ⟨rfl, hR⟩
end
section
variable {w : World} {V : Vals} {gb : Nat} {vl : Value} {B : Book}
set_option maxRecDepth 100000 in
set_option maxHeartbeats 4000000 in
theorem try_err (H : BookAt w V gb vl B) (I : BInv B) (m : Int) (hm : w.cell? ⟨3, 0, none⟩ = some (.int .i64 m)) (line : ByteArray) (stay : Bool) (D : Deed) (hD : DeedOk D) (hr : readR (readP line) = .tuple #[ifaceD D, .int .i64 0]) (hq : (doP B.house D).1 ≠ 0) :
    Calls Tryz.prog 64 #[.pointer (some ⟨gb, 0, none⟩), .string line, .bool stay] w (TryPost V B.house B.house w (doP B.house D).1) := by
  have HB0 := Lib.hid H
  obtain ⟨gh, hV, hBh⟩ := H.house.hs
  have hbk := H.bk
  rw [hV] at hbk
  have HNO : Hid (∀ w', Below w.heap.size w w' → Calls Tryz.prog 60 #[.pointer (some ⟨gb, 0, none⟩)] w' fun e w2 => e = .returned (.bool false) ∧ w2 = w') := fun w' hb => none_no (hbk.callee hb)
  have HRD : Hid (∀ w', Below w.heap.size w w' → Calls Tryz.prog 92 #[.string line] w' fun e w2 => e = .returned (.tuple #[.iface (deedT D) (deedV D), .int .i64 0]) ∧ Below w'.heap.size w' w2) := fun w' hb => by
    have h := read_any line w' m ((hb.cell (p := ⟨_, 0, none⟩) (lt_cell hm)).trans hm)
    rw [hr] at h
    exact h
  obtain ⟨E, hE⟩ : ∃ E, (doP B.house D).1 = E := ⟨_, rfl⟩
  rw [hE] at hq ⊢
  have HDO : Hid (∀ w', Below w.heap.size w w' → Calls Tryz.prog (deedF D) #[deedV D, .pointer (some ⟨gh, 0, none⟩)] w' fun e w2 => e = .returned (.tuple #[.nilFunc, .int .i64 E]) ∧ ∃ V', HouseAt w2 V' B.house ∧ V' .house = V .house ∧ Frm (Foot V) w' (Foot V') w2) := fun w' hb => by
    have h := deed_any (H.house.callee hb) I.inv D hD
    rw [hV] at h
    refine h.mono ?_
    rintro e w2 (⟨_, h2, h3⟩ | ⟨h1, _⟩)
    · rw [hE] at h2
      exact ⟨h2, h3⟩
    · rw [hE] at h1
      exact absurd h1 hq
  have hE2 : (E != 0) = true := by simpa using hq
  have HGB : Hid (Blk w gb 39 #[.pointer (some ⟨gh, 0, none⟩), vl]) := hbk
  have hna := nil_do D
  clear hr hE hV hBh H hbk hm hq
  go_enter_defers Tryz.func64, Tryz.ntmps64
  go_wp2_with (first
    | (with_reducible show wpList _ _ _ (⟨_, .box 4 _, _, _, _, _⟩ :: _) _ _
       refine wpList_box_cells rfl 4 _ rfl (.bool stay) #[.bool stay] rfl rfl ?_
       intro w1 g1 hG1 hgr1 hge1
       have hb1 := below_grown hgr1)
    | (with_reducible show wpList _ _ _ (⟨_, .alloc 28, _, _, _, _⟩ :: _) _ _
       refine wpList_alloc_oneC rfl 28 (.int .i64 0) rfl zero_errno rfl ?_
       intro w2 g2 hG2 hgr2 hge2
       have hb2 := hb1.trans ((below_grown hgr2).mono hb1.size))
    | (go_at_call 60; (with_reducible refine (HNO.out _ hb2).mono ?_); rintro e w3 ⟨rfl, hw3⟩; replace hw3 := hw3.symm; subst hw3)
    | (go_at_call 92; (with_reducible refine (HRD.out _ hb2).mono ?_)
       rintro e w4 ⟨rfl, hb4⟩
       have c4 : w4.cell? ⟨g2, 0, none⟩ = some (.int .i64 0) := (hG2.callee hb4).at_ 0 rfl
       have f4 := (hG2.callee hb4).frozen 0)
    | (with_reducible show wpList _ _ _ (⟨_, .store 28 _ _, _, _, _, _⟩ :: _) _ _
       refine wpList_setcellC rfl 28 _ _ rfl g2 0 (.int .i64 0) rfl rfl (by go_simp) ?_
       obtain ⟨w5, hw5⟩ : ∃ w5, w4.setCell ⟨g2, 0, none⟩ (.int .i64 0) = w5 := ⟨_, rfl⟩
       rw [hw5]
       have HG5 : Hid (Blk w5 g2 28 #[.int .i64 0]) := by rw [Hid, ← hw5]; exact (hG2.callee hb4).set_ 0 _
       have c5 : w5.cell? ⟨g2, 0, none⟩ = some (.int .i64 0) := HG5.out.at_ 0 rfl
       have HB5 : Hid (Below w.heap.size w w5) := by
         rw [Hid, ← hw5]
         exact (hb2.trans (hb4.mono hb2.size)).setCell (Nat.le_trans hb1.size hge2) _
       have HG2E : Hid (w.heap.size ≤ g2) := Nat.le_trans hb1.size hge2
       clear hw5 c4 f4))
  have HNA := Lib.hid hna
  clear hG2 hgr2 hge2 hb2 hb4 hgr1
  have cB : w5.cell? ⟨gb, 0, none⟩ = some (.pointer (some ⟨gh, 0, none⟩)) := (HGB.out.callee HB5.out).at_ 0 rfl
  have CB := Lib.hid cB
  clear cB c5
  refine De.region_tree (fun b w' => bif b then (True) else (w'.cell? ⟨gb, 0, none⟩ = some (.pointer (some ⟨gh, 0, none⟩)) ∧ True)) 8 4 (by kernel_rfl) (by kernel_rfl) (by decide) ⟨CB.out, trivial⟩ ?_
  (try simp only [Act.put, De.l0, De.l1, De.l2])
  refine De.MidT.read (o := ?o1) (v := ?v1) 0 (by decide) ?q1 (by kernel_rfl) (by kernel_rfl) ?w1 (by kernel_rfl) ?y1 ?h1
  case q1 => (simp only [De.g0, De.g1, De.g2]; rfl)
  case w1 => kernel_rfl
  case y1 => (intro w' hw'; obtain ⟨x1, _⟩ := hw'; go_simp; (try with_reducible rfl))
  (try simp only [Act.put, De.l0, De.l1, De.l2])
  refine De.MidT.read (o := ?o2) (v := ?v2) 1 (by decide) ?q2 (by kernel_rfl) (by kernel_rfl) ?w2 (by kernel_rfl) ?y2 ?h2
  case q2 => (simp only [De.g0, De.g1, De.g2]; rfl)
  case w2 => kernel_rfl
  case y2 => (intro w' hw'; obtain ⟨x1, _⟩ := hw'; go_simp; (try with_reducible rfl))
  (try simp only [Act.put, De.l0, De.l1, De.l2])
  refine De.MidT.read (o := ?o3) (v := ?v3) 2 (by decide) ?q3 (by kernel_rfl) (by kernel_rfl) ?w3 (by kernel_rfl) ?y3 ?h3
  case q3 => (simp only [De.g0, De.g1, De.g2]; rfl)
  case w3 => kernel_rfl
  case y3 => (intro w' hw'; obtain ⟨x1, _⟩ := hw'; go_simp; (try with_reducible rfl))
  (try simp only [Act.put, De.l0, De.l1, De.l2])
  refine De.MidT.read (o := ?o4) (v := ?v4) 3 (by decide) ?q4 (by kernel_rfl) (by kernel_rfl) ?w4 (by kernel_rfl) ?y4 ?h4
  case q4 => (simp only [De.g0, De.g1, De.g2]; rfl)
  case w4 => kernel_rfl
  case y4 => (intro w' hw'; obtain ⟨x1, _⟩ := hw'; go_simp; (try with_reducible rfl))
  (try simp only [Act.put, De.l0, De.l1, De.l2])
  refine De.MidT.read (o := ?o5) (v := ?v5) 4 (by decide) ?q5 (by kernel_rfl) (by kernel_rfl) ?w5 (by kernel_rfl) ?y5 ?h5
  case q5 => (simp only [De.g0, De.g1, De.g2]; rfl)
  case w5 => kernel_rfl
  case y5 => (intro w' hw'; obtain ⟨x1, _⟩ := hw'; go_simp; (try with_reducible rfl))
  (try simp only [Act.put, De.l0, De.l1, De.l2])
  refine De.MidT.read (o := ?o6) (v := ?v6) 5 (by decide) ?q6 (by kernel_rfl) (by kernel_rfl) ?w6 (by kernel_rfl) ?y6 ?h6
  case q6 => (simp only [De.g0, De.g1, De.g2]; rfl)
  case w6 => kernel_rfl
  case y6 => (intro w' hw'; obtain ⟨x1, _⟩ := hw'; go_simp; (try with_reducible rfl))
  (try simp only [Act.put, De.l0, De.l1, De.l2])
  refine De.MidT.read (o := ?o7) (v := ?v7) 6 (by decide) ?q7 (by kernel_rfl) (by kernel_rfl) ?w7 (by kernel_rfl) ?y7 ?h7
  case q7 => (simp only [De.g0, De.g1, De.g2]; rfl)
  case w7 => kernel_rfl
  case y7 => (intro w' hw'; obtain ⟨x1, _⟩ := hw'; go_simp; (try with_reducible rfl))
  (try simp only [Act.put, De.l0, De.l1, De.l2])
  refine De.MidT.read (o := ?o8) (v := ?v8) 7 (by decide) ?q8 (by kernel_rfl) (by kernel_rfl) ?w8 (by kernel_rfl) ?y8 ?h8
  case q8 => (simp only [De.g0, De.g1, De.g2]; rfl)
  case w8 => kernel_rfl
  case y8 => (intro w' hw'; obtain ⟨x1, _⟩ := hw'; go_simp; (try with_reducible rfl))
  (try simp only [Act.put, De.l0, De.l1, De.l2])
  (try refine De.MidT.tail ?_)
  refine De.Tr.two (i := 8) (j := 12) (o := ?o10) (p := ?o9) (by kernel_rfl) ?q10 ?g10 ?q9 ?g9 ?h10 ?h9
  case q10 => (simp only [De.g0, De.g1, De.g2]; rfl)
  case g10 => rfl
  case q9 => (simp only [De.g0, De.g1, De.g2]; rfl)
  case g9 => rfl
  · refine wp_ask D _ _ 37 (.pointer (some ⟨gh, 0, none⟩)) rfl rfl rfl (HDO.out _ HB5.out.drew) ?_
    rintro e w6 ⟨rfl, V', hH6, hV6, hF6⟩
    refine ⟨_, rfl, ⟨_, rfl⟩, trivial, ?_⟩
    (try simp only [Act.put, De.l0, De.l1, De.l2])
    refine De.MidT.read2 (o := ?o11) (v := ?v11) 9 (by decide) ?q11 (by kernel_rfl) (by kernel_rfl) ?w11 ?y11 ?h11
    case q11 => (simp only [De.g0, De.g1, De.g2]; rfl)
    case w11 => kernel_rfl
    case y11 => (intro b w' hw'; clear hw'; go_simp; (try with_reducible rfl))
    (try simp only [Act.put, De.l0, De.l1, De.l2])
    refine De.MidT.read2 (o := ?o12) (v := ?v12) 10 (by decide) ?q12 (by kernel_rfl) (by kernel_rfl) ?w12 ?y12 ?h12
    case q12 => (simp only [De.g0, De.g1, De.g2]; rfl)
    case w12 => kernel_rfl
    case y12 => (intro b w' hw'; clear hw'; go_simp; (try with_reducible rfl))
    (try simp only [Act.put, De.l0, De.l1, De.l2])
    refine De.MidT.read2 (o := ?o13) (v := ?v13) 11 (by decide) ?q13 (by kernel_rfl) (by kernel_rfl) ?w13 ?y13 ?h13
    case q13 => (simp only [De.g0, De.g1, De.g2]; rfl)
    case w13 => kernel_rfl
    case y13 => (intro b w' hw'; clear hw'; go_simp; (try with_reducible rfl))
    (try simp only [Act.put, De.l0, De.l1, De.l2])
    (try refine De.MidT.tail ?_)
    refine De.Tr.one (i := 12) (o := ?o14) (by kernel_rfl) ?q14 ?g14 ?h14
    case q14 => (simp only [De.g0, De.g1, De.g2]; rfl)
    case g14 => rfl
    refine wp_alloc_one 1 .nilFunc rfl zero_funcC rfl ?_
    intro w7 g8 hG8 hgr8 hge8
    have hn2 : ¬ Foot V' g2 := not_foot HB0.out.house hF6 HG2E.out (show g2 < w5.heap.size from HG5.out.lt)
    have hn8 : ¬ Foot V' g8 := fun hf => by have := hH6.lt hf; omega
    have z5 : w5.heap.size ≤ w6.heap.size := hF6.size
    have z7 := hgr8.size
    have HB57 : Hid (∀ i, i < w6.heap.size → w7.heap[i]? = w6.heap[i]?) := fun i hi => hgr8.block i hi (by simp)
    have n28 : g2 ≠ g8 := fun e => by have := HG5.out.lt; omega
    have HH7 := Lib.hid (hH6.callee (below_grown hgr8))
    have HFF : Hid (∀ w9 : World, (∀ i, i < w.heap.size → w9.heap[i]? = w7.heap[i]?) → (w9.os = w7.os ∧ w9.tape = w7.tape ∧ w9.output = w7.output ∧ w7.heap.size ≤ w9.heap.size) → Frm (Foot V) w (Foot V') w9) := fun w9 h1 h2 =>
      frm_end HB5.out.drew hF6 (fun i hi => (h1 i hi).trans (HB57.out i (by have := HB5.out.size; omega))) ⟨h2.1.trans hgr8.os, h2.2.1.trans hgr8.tape, h2.2.2.1.trans hgr8.output, Nat.le_trans z7 h2.2.2.2⟩
    have HG27 : Hid (∃ v, Blk w7 g2 28 #[v]) := by
      have h2 : w6.heap[g2]? = w5.heap[g2]? := hF6.block g2 (show g2 < w5.heap.size from HG5.out.lt) (fun hf => by have := HB0.out.house.lt hf; have := HG2E.out; omega)
      exact ⟨_, (HB57.out g2 (by have := HG5.out.lt; omega)).trans (h2.trans HG5.out)⟩
    have HG8 := Lib.hid hG8
    have HN : Hid (¬ Foot V' g2 ∧ ¬ Foot V' g8 ∧ g2 ≠ g8 ∧ w.heap.size ≤ g8) := ⟨hn2, hn8, n28, by have := HB5.out.size; omega⟩
    have HVV := Lib.hid hV6
    clear hG8 hgr8 hge8 hH6 hV6 hF6 hn2 hn8 z5 z7 n28 HB57
    refine ⟨⟨_, rfl⟩, trivial, ?_⟩
    have c7 : w7.cell? ⟨g8, 0, none⟩ = some .nilFunc := HG8.out.at_ 0 rfl
    have f7 := HG8.out.frozen 0
    (try simp only [Act.put, De.l0, De.l1, De.l2])
    (try refine De.MidT.tail ?_)
    refine De.Tr.one (i := 13) (o := ?o15) (by kernel_rfl) ?q15 ?g15 ?h15
    case q15 => (simp only [De.g0, De.g1, De.g2]; rfl)
    case g15 => rfl
    refine wp_setcell 1 _ _ rfl g8 0 .nilFunc rfl rfl (by go_simp) ?_
    obtain ⟨w8, hw8⟩ : ∃ w8, w7.setCell ⟨g8, 0, none⟩ .nilFunc = w8 := ⟨_, rfl⟩
    rw [hw8]
    have s8 : ∀ i, i ≠ g8 → w8.heap[i]? = w7.heap[i]? := fun i hi => by rw [← hw8]; exact Below.heap_setCell w7 ⟨g8, 0, none⟩ _ i hi
    have x8 : w8.os = w7.os ∧ w8.tape = w7.tape ∧ w8.output = w7.output ∧ w8.heap.size = w7.heap.size := by rw [← hw8]; exact ⟨rfl, rfl, rfl, by simp⟩
    obtain ⟨v2, hG2⟩ := HG27.out
    have hG28 : Blk w8 g2 28 #[v2] := (s8 g2 HN.out.2.2.1).trans hG2
    have c8 : w8.cell? ⟨g2, 0, none⟩ = some v2 := hG28.at_ 0 rfl
    have f8 := hG28.frozen 0
    clear hw8 c7 f7
    refine ⟨⟨_, rfl⟩, trivial, ?_⟩
    (try simp only [Act.put, De.l0, De.l1, De.l2])
    (try refine De.MidT.tail ?_)
    refine De.Tr.one (i := 14) (o := ?o16) (by kernel_rfl) ?q16 ?g16 ?h16
    case q16 => (simp only [De.g0, De.g1, De.g2]; rfl)
    case g16 => rfl
    refine wp_setcell 28 _ _ rfl g2 0 (.int .i64 E) rfl rfl (by go_simp) ?_
    obtain ⟨w9, hw9⟩ : ∃ w9, w8.setCell ⟨g2, 0, none⟩ (.int .i64 E) = w9 := ⟨_, rfl⟩
    rw [hw9]
    have s9 : ∀ i, i ≠ g2 → w9.heap[i]? = w8.heap[i]? := fun i hi => by rw [← hw9]; exact Below.heap_setCell w8 ⟨g2, 0, none⟩ _ i hi
    have x9 : w9.os = w8.os ∧ w9.tape = w8.tape ∧ w9.output = w8.output ∧ w9.heap.size = w8.heap.size := by rw [← hw9]; exact ⟨rfl, rfl, rfl, by simp⟩
    have hG29 : Blk w9 g2 28 #[.int .i64 E] := by rw [← hw9]; exact hG28.set_ 0 _
    have HG29 := Lib.hid hG29
    have HX9 : Hid ((∀ i, i ≠ g2 → i ≠ g8 → w9.heap[i]? = w7.heap[i]?) ∧ w9.os = w7.os ∧ w9.tape = w7.tape ∧ w9.output = w7.output ∧ w9.heap.size = w7.heap.size) := ⟨fun i h1 h2 => (s9 i h1).trans (s8 i h2), x9.1.trans x8.1, x9.2.1.trans x8.2.1, x9.2.2.1.trans x8.2.2.1, x9.2.2.2.trans x8.2.2.2⟩
    have c9 : w9.cell? ⟨g2, 0, none⟩ = some (.int .i64 E) := hG29.at_ 0 rfl
    have f9 := hG29.frozen 0
    clear hw9 c8 f8 s8 s9 x8 x9 hG29 hG28 hG2
    refine ⟨⟨_, rfl⟩, trivial, ?_⟩
    (try refine De.MidT.tail ?_)
    refine De.Tr.done (by kernel_rfl) ?_
    (try simp only [Act.put, De.l0, De.l1, De.l2])
    go_wp2_with (fail)
    have hGE : Blk (w9.setCell ⟨g2, 0, none⟩ (.int .i64 E)) g2 28 #[.int .i64 E] := HG29.out.set_ 0 _
    have sE : ∀ i, i ≠ g2 → (w9.setCell ⟨g2, 0, none⟩ (.int .i64 E)).heap[i]? = w9.heap[i]? := fun i hi => Below.heap_setCell w9 ⟨g2, 0, none⟩ _ i hi
    refine ⟨.int .i64 E, results_errno rfl _ rfl (hGE.at_ 0 rfl), rfl, V', HH7.out.same (fun i hi => (sE i (fun e => HN.out.1 (by rw [← e]; exact hi))).trans (HX9.out.1 i (fun e => HN.out.1 (by rw [← e]; exact hi)) (fun e => HN.out.2.1 (by rw [← e]; exact hi)))), HVV.out, HFF.out _ (fun i hi => (sE i (by have := HG2E.out; omega)).trans (HX9.out.1 i (by have := HG2E.out; omega) (by have := HN.out.2.2.2; omega))) ⟨HX9.out.2.1, HX9.out.2.2.1, HX9.out.2.2.2.1, by rw [show (w9.setCell ⟨g2, 0, none⟩ (.int .i64 E)).heap.size = w9.heap.size by simp, HX9.out.2.2.2.2]; exact Nat.le_refl _⟩⟩
  · refine wp_alloc_one 1 .nilFunc rfl zero_funcC rfl ?_
    intro w6 g8 hG8 hgr8 hge8
    have hb6 : Below w5.heap.size w5 w6 := (Below.refl _ _).drew.trans (below_grown (w := w5.drew) hgr8)
    have HB6 : Hid (Below w.heap.size w w6) := HB5.out.trans (hb6.mono HB5.out.size)
    have HG8 := Lib.hid hG8
    have HG28 : Hid (Blk w6 g2 28 #[.int .i64 0]) := HG5.out.callee hb6
    have hge8' : w5.heap.size ≤ g8 := hge8
    have HNE : Hid (g2 ≠ g8 ∧ w.heap.size ≤ g8) := ⟨fun e => by have := HG5.out.lt; omega, by have := HB5.out.size; omega⟩
    have cB : w6.cell? ⟨gb, 0, none⟩ = some (.pointer (some ⟨gh, 0, none⟩)) := (HGB.out.callee HB6.out).at_ 0 rfl
    have CB6 := Lib.hid cB
    clear cB hgr8 hge8 hge8' hb6 hG8
    refine ⟨⟨_, rfl⟩, ⟨CB6.out, trivial⟩, ?_⟩
    (try simp only [Act.put, De.l0, De.l1, De.l2])
    (try refine De.MidT.tail ?_)
    refine De.Tr.one (i := 8) (o := ?o17) (by kernel_rfl) ?q17 ?g17 ?h17
    case q17 => (simp only [De.g0, De.g1, De.g2]; rfl)
    case g17 => rfl
    refine wp_ask D _ _ 37 (.pointer (some ⟨gh, 0, none⟩)) rfl rfl rfl (HDO.out _ HB6.out) ?_
    rintro e w7 ⟨rfl, V', hH6, hV6, hF6⟩
    have HH7 := Lib.hid hH6
    have HFF : Hid (∀ w9 : World, (∀ i, i < w.heap.size → w9.heap[i]? = w7.heap[i]?) → (w9.os = w7.os ∧ w9.tape = w7.tape ∧ w9.output = w7.output ∧ w7.heap.size ≤ w9.heap.size) → Frm (Foot V) w (Foot V') w9) := fun w9 h1 h2 =>
      frm_end HB6.out hF6 h1 h2
    have HG27 : Hid (∃ v, Blk w7 g2 28 #[v]) := ⟨_, (hF6.block g2 HG28.out.lt (fun hf => by have := HB0.out.house.lt hf; have := HG2E.out; omega)).trans HG28.out⟩
    have HN : Hid (¬ Foot V' g2 ∧ ¬ Foot V' g8 ∧ g2 ≠ g8 ∧ w.heap.size ≤ g8) := ⟨not_foot HB0.out.house hF6 HG2E.out HG28.out.lt, not_foot HB0.out.house hF6 HNE.out.2 HG8.out.lt, HNE.out.1, HNE.out.2⟩
    replace HG8 : Hid (Blk w7 g8 1 #[.nilFunc]) := (hF6.block g8 HG8.out.lt (fun hf => by have := HB0.out.house.lt hf; have := HNE.out.2; omega)).trans HG8.out
    have HVV := Lib.hid hV6
    clear hH6 hV6 hF6
    refine ⟨_, rfl, ⟨_, rfl⟩, trivial, ?_⟩
    (try simp only [Act.put, De.l0, De.l1, De.l2])
    refine De.MidT.read2 (o := ?o18) (v := ?v18) 9 (by decide) ?q18 (by kernel_rfl) (by kernel_rfl) ?w18 ?y18 ?h18
    case q18 => (simp only [De.g0, De.g1, De.g2]; rfl)
    case w18 => kernel_rfl
    case y18 => (intro b w' hw'; clear hw'; go_simp; (try with_reducible rfl))
    (try simp only [Act.put, De.l0, De.l1, De.l2])
    refine De.MidT.read2 (o := ?o19) (v := ?v19) 10 (by decide) ?q19 (by kernel_rfl) (by kernel_rfl) ?w19 ?y19 ?h19
    case q19 => (simp only [De.g0, De.g1, De.g2]; rfl)
    case w19 => kernel_rfl
    case y19 => (intro b w' hw'; clear hw'; go_simp; (try with_reducible rfl))
    (try simp only [Act.put, De.l0, De.l1, De.l2])
    refine De.MidT.read2 (o := ?o20) (v := ?v20) 11 (by decide) ?q20 (by kernel_rfl) (by kernel_rfl) ?w20 ?y20 ?h20
    case q20 => (simp only [De.g0, De.g1, De.g2]; rfl)
    case w20 => kernel_rfl
    case y20 => (intro b w' hw'; clear hw'; go_simp; (try with_reducible rfl))
    (try simp only [Act.put, De.l0, De.l1, De.l2])
    have c7 : w7.cell? ⟨g8, 0, none⟩ = some .nilFunc := HG8.out.at_ 0 rfl
    have f7 := HG8.out.frozen 0
    (try simp only [Act.put, De.l0, De.l1, De.l2])
    (try refine De.MidT.tail ?_)
    refine De.Tr.one (i := 13) (o := ?o21) (by kernel_rfl) ?q21 ?g21 ?h21
    case q21 => (simp only [De.g0, De.g1, De.g2]; rfl)
    case g21 => rfl
    refine wp_setcell 1 _ _ rfl g8 0 .nilFunc rfl rfl (by go_simp) ?_
    obtain ⟨w8, hw8⟩ : ∃ w8, w7.setCell ⟨g8, 0, none⟩ .nilFunc = w8 := ⟨_, rfl⟩
    rw [hw8]
    have s8 : ∀ i, i ≠ g8 → w8.heap[i]? = w7.heap[i]? := fun i hi => by rw [← hw8]; exact Below.heap_setCell w7 ⟨g8, 0, none⟩ _ i hi
    have x8 : w8.os = w7.os ∧ w8.tape = w7.tape ∧ w8.output = w7.output ∧ w8.heap.size = w7.heap.size := by rw [← hw8]; exact ⟨rfl, rfl, rfl, by simp⟩
    obtain ⟨v2, hG2⟩ := HG27.out
    have hG28 : Blk w8 g2 28 #[v2] := (s8 g2 HN.out.2.2.1).trans hG2
    have c8 : w8.cell? ⟨g2, 0, none⟩ = some v2 := hG28.at_ 0 rfl
    have f8 := hG28.frozen 0
    clear hw8 c7 f7
    refine ⟨⟨_, rfl⟩, trivial, ?_⟩
    (try simp only [Act.put, De.l0, De.l1, De.l2])
    (try refine De.MidT.tail ?_)
    refine De.Tr.one (i := 14) (o := ?o22) (by kernel_rfl) ?q22 ?g22 ?h22
    case q22 => (simp only [De.g0, De.g1, De.g2]; rfl)
    case g22 => rfl
    refine wp_setcell 28 _ _ rfl g2 0 (.int .i64 E) rfl rfl (by go_simp) ?_
    obtain ⟨w9, hw9⟩ : ∃ w9, w8.setCell ⟨g2, 0, none⟩ (.int .i64 E) = w9 := ⟨_, rfl⟩
    rw [hw9]
    have s9 : ∀ i, i ≠ g2 → w9.heap[i]? = w8.heap[i]? := fun i hi => by rw [← hw9]; exact Below.heap_setCell w8 ⟨g2, 0, none⟩ _ i hi
    have x9 : w9.os = w8.os ∧ w9.tape = w8.tape ∧ w9.output = w8.output ∧ w9.heap.size = w8.heap.size := by rw [← hw9]; exact ⟨rfl, rfl, rfl, by simp⟩
    have hG29 : Blk w9 g2 28 #[.int .i64 E] := by rw [← hw9]; exact hG28.set_ 0 _
    have HG29 := Lib.hid hG29
    have HX9 : Hid ((∀ i, i ≠ g2 → i ≠ g8 → w9.heap[i]? = w7.heap[i]?) ∧ w9.os = w7.os ∧ w9.tape = w7.tape ∧ w9.output = w7.output ∧ w9.heap.size = w7.heap.size) := ⟨fun i h1 h2 => (s9 i h1).trans (s8 i h2), x9.1.trans x8.1, x9.2.1.trans x8.2.1, x9.2.2.1.trans x8.2.2.1, x9.2.2.2.trans x8.2.2.2⟩
    have c9 : w9.cell? ⟨g2, 0, none⟩ = some (.int .i64 E) := hG29.at_ 0 rfl
    have f9 := hG29.frozen 0
    clear hw9 c8 f8 s8 s9 x8 x9 hG29 hG28 hG2
    refine ⟨⟨_, rfl⟩, trivial, ?_⟩
    (try refine De.MidT.tail ?_)
    refine De.Tr.done (by kernel_rfl) ?_
    (try simp only [Act.put, De.l0, De.l1, De.l2])
    go_wp2_with (fail)
    have hGE : Blk (w9.setCell ⟨g2, 0, none⟩ (.int .i64 E)) g2 28 #[.int .i64 E] := HG29.out.set_ 0 _
    have sE : ∀ i, i ≠ g2 → (w9.setCell ⟨g2, 0, none⟩ (.int .i64 E)).heap[i]? = w9.heap[i]? := fun i hi => Below.heap_setCell w9 ⟨g2, 0, none⟩ _ i hi
    refine ⟨.int .i64 E, results_errno rfl _ rfl (hGE.at_ 0 rfl), rfl, V', HH7.out.same (fun i hi => (sE i (fun e => HN.out.1 (by rw [← e]; exact hi))).trans (HX9.out.1 i (fun e => HN.out.1 (by rw [← e]; exact hi)) (fun e => HN.out.2.1 (by rw [← e]; exact hi)))), HVV.out, HFF.out _ (fun i hi => (sE i (by have := HG2E.out; omega)).trans (HX9.out.1 i (by have := HG2E.out; omega) (by have := HN.out.2.2.2; omega))) ⟨HX9.out.2.1, HX9.out.2.2.1, HX9.out.2.2.2.1, by rw [show (w9.setCell ⟨g2, 0, none⟩ (.int .i64 E)).heap.size = w9.heap.size by simp, HX9.out.2.2.2.2]; exact Nat.le_refl _⟩⟩
end
end Dr
end Go.Proofs.YtbgakdpbglpfaaaGreatDoor
-- the text DrMc
namespace Go.Proofs.YtbgakdpbglpfaaaGreatDoor
open Go.RowKit
namespace Dr
set_option linter.unusedSimpArgs false
section
variable {w : World} {V : Vals} {gb : Nat} {vl : Value} {B : Book}
set_option maxRecDepth 100000 in
set_option maxHeartbeats 4000000 in
theorem try_ok (H : BookAt w V gb vl B) (I : BInv B) (m : Int) (hm : w.cell? ⟨3, 0, none⟩ = some (.int .i64 m)) (line : ByteArray) (stay : Bool) (D : Deed) (hD : DeedOk D) (hr : readR (readP line) = .tuple #[ifaceD D, .int .i64 0]) (hq : (doP B.house D).1 = 0) (R : Int) (S : House) (hR : (R = 16 ∧ B.lines.length = 100 ∧ S = B.house) ∨ (R = 0 ∧ B.lines.length ≠ 100 ∧ S = if stay then (doP B.house D).2 else B.house)) :
    Calls Tryz.prog 64 #[.pointer (some ⟨gb, 0, none⟩), .string line, .bool stay] w (TryPost V B.house S w R) := by
  have HB0 := Lib.hid H
  obtain ⟨gh, hV, hBh⟩ := H.house.hs
  have hbk := H.bk
  rw [hV] at hbk
  have HNO : Hid (∀ w', Below w.heap.size w w' → Calls Tryz.prog 60 #[.pointer (some ⟨gb, 0, none⟩)] w' fun e w2 => e = .returned (.bool false) ∧ w2 = w') := fun w' hb => none_no (hbk.callee hb)
  have HRD : Hid (∀ w', Below w.heap.size w w' → Calls Tryz.prog 92 #[.string line] w' fun e w2 => e = .returned (.tuple #[.iface (deedT D) (deedV D), .int .i64 0]) ∧ Below w'.heap.size w' w2) := fun w' hb => by
    have h := read_any line w' m ((hb.cell (p := ⟨_, 0, none⟩) (lt_cell hm)).trans hm)
    rw [hr] at h
    exact h
  have HDO : Hid (∀ w', Below w.heap.size w w' → Calls Tryz.prog (deedF D) #[deedV D, .pointer (some ⟨gh, 0, none⟩)] w' fun e w2 => ∃ f cap V', e = .returned (.tuple #[.func (.func f) #[] cap, .int .i64 0]) ∧ HouseAt w2 V' (doP B.house D).2 ∧ V' .house = V .house ∧ Frm (Foot V) w' (Foot V') w2 ∧ UndoOk f cap V B.house w' w2) := fun w' hb => by
    have h := deed_any (H.house.callee hb) I.inv D hD
    rw [hV] at h
    refine h.mono ?_
    rintro e w2 (⟨h1, _⟩ | ⟨_, f, cap, V', h2, h3, h4, h5, h6⟩)
    · exact absurd hq h1
    · exact ⟨f, cap, V', h2, h3, h4, h5, h6⟩
  obtain ⟨S1, hS1⟩ : ∃ S1, (doP B.house D).2 = S1 := ⟨_, rfl⟩
  rw [hS1] at HDO hR
  have HRR := Lib.hid hR
  obtain ⟨Al, cl, hvl, hcl, hcm, _, _⟩ := ownS_form H.lines
  obtain ⟨nl, hnl⟩ : ∃ nl, B.lines.length = nl := ⟨_, rfl⟩
  rw [hnl] at hvl HRR hR
  have HVL := Lib.hid hvl
  have HGB : Hid (Blk w gb 39 #[.pointer (some ⟨gh, 0, none⟩), vl]) := hbk
  have hna := nil_do D
  clear hr hS1 hV hBh H hbk hm hq hvl hcl hcm hnl hR
  go_enter_defers Tryz.func64, Tryz.ntmps64
  go_wp2_with (first
    | (with_reducible show wpList _ _ _ (⟨_, .box 4 _, _, _, _, _⟩ :: _) _ _
       refine wpList_box_cells rfl 4 _ rfl (.bool stay) #[.bool stay] rfl rfl ?_
       intro w1 g1 hG1 hgr1 hge1
       have hb1 := below_grown hgr1)
    | (with_reducible show wpList _ _ _ (⟨_, .alloc 28, _, _, _, _⟩ :: _) _ _
       refine wpList_alloc_oneC rfl 28 (.int .i64 0) rfl zero_errno rfl ?_
       intro w2 g2 hG2 hgr2 hge2
       have hb2 := hb1.trans ((below_grown hgr2).mono hb1.size))
    | (go_at_call 60; (with_reducible refine (HNO.out _ hb2).mono ?_); rintro e w3 ⟨rfl, hw3⟩; replace hw3 := hw3.symm; subst hw3)
    | (go_at_call 92; (with_reducible refine (HRD.out _ hb2).mono ?_)
       rintro e w4 ⟨rfl, hb4⟩
       have c4 : w4.cell? ⟨g2, 0, none⟩ = some (.int .i64 0) := (hG2.callee hb4).at_ 0 rfl
       have f4 := (hG2.callee hb4).frozen 0)
    | (with_reducible show wpList _ _ _ (⟨_, .store 28 _ _, _, _, _, _⟩ :: _) _ _
       refine wpList_setcellC rfl 28 _ _ rfl g2 0 (.int .i64 0) rfl rfl (by go_simp) ?_
       obtain ⟨w5, hw5⟩ : ∃ w5, w4.setCell ⟨g2, 0, none⟩ (.int .i64 0) = w5 := ⟨_, rfl⟩
       rw [hw5]
       have HG5 : Hid (Blk w5 g2 28 #[.int .i64 0]) := by rw [Hid, ← hw5]; exact (hG2.callee hb4).set_ 0 _
       have c5 : w5.cell? ⟨g2, 0, none⟩ = some (.int .i64 0) := HG5.out.at_ 0 rfl
       have HB5 : Hid (Below w.heap.size w w5) := by
         rw [Hid, ← hw5]
         exact (hb2.trans (hb4.mono hb2.size)).setCell (Nat.le_trans hb1.size hge2) _
       have HG2E : Hid (w.heap.size ≤ g2) := Nat.le_trans hb1.size hge2
       have HG15 : Hid (Blk w5 g1 4 #[.bool stay]) := by
         have n12 : g1 ≠ g2 := fun e => by have := hG1.lt; omega
         rw [Hid, ← hw5]
         exact (Below.heap_setCell w4 ⟨g2, 0, none⟩ _ g1 n12).trans ((hb4.block g1 (Nat.lt_of_lt_of_le hG1.lt (below_grown hgr2).size)).trans (Blk.none_ hG1 hgr2))
       clear hw5 c4 f4))
  have HNA := Lib.hid hna
  have HG1 : Hid (Blk w5 g1 4 #[.bool stay] ∧ w.heap.size ≤ g1 ∧ g1 ≠ g2) := by
    have n12 : g1 ≠ g2 := fun e => by have := hG1.lt; omega
    refine ⟨?_, hge1, n12⟩
    exact HG15.out
  clear hG2 hgr2 hge2 hb2 hb4 hgr1 hG1
  have cB : w5.cell? ⟨gb, 0, none⟩ = some (.pointer (some ⟨gh, 0, none⟩)) := (HGB.out.callee HB5.out).at_ 0 rfl
  have CB := Lib.hid cB
  clear cB c5
  refine De.region_tree (fun b w' => bif b then (True) else (w'.cell? ⟨gb, 0, none⟩ = some (.pointer (some ⟨gh, 0, none⟩)) ∧ True)) 8 4 (by kernel_rfl) (by kernel_rfl) (by decide) ⟨CB.out, trivial⟩ ?_
  (try simp only [Act.put, De.l0, De.l1, De.l2])
  refine De.MidT.read (o := ?o1) (v := ?v1) 0 (by decide) ?q1 (by kernel_rfl) (by kernel_rfl) ?w1 (by kernel_rfl) ?y1 ?h1
  case q1 => (simp only [De.g0, De.g1, De.g2]; rfl)
  case w1 => kernel_rfl
  case y1 => (intro w' hw'; obtain ⟨x1, _⟩ := hw'; go_simp; (try with_reducible rfl))
  (try simp only [Act.put, De.l0, De.l1, De.l2])
  refine De.MidT.read (o := ?o2) (v := ?v2) 1 (by decide) ?q2 (by kernel_rfl) (by kernel_rfl) ?w2 (by kernel_rfl) ?y2 ?h2
  case q2 => (simp only [De.g0, De.g1, De.g2]; rfl)
  case w2 => kernel_rfl
  case y2 => (intro w' hw'; obtain ⟨x1, _⟩ := hw'; go_simp; (try with_reducible rfl))
  (try simp only [Act.put, De.l0, De.l1, De.l2])
  refine De.MidT.read (o := ?o3) (v := ?v3) 2 (by decide) ?q3 (by kernel_rfl) (by kernel_rfl) ?w3 (by kernel_rfl) ?y3 ?h3
  case q3 => (simp only [De.g0, De.g1, De.g2]; rfl)
  case w3 => kernel_rfl
  case y3 => (intro w' hw'; obtain ⟨x1, _⟩ := hw'; go_simp; (try with_reducible rfl))
  (try simp only [Act.put, De.l0, De.l1, De.l2])
  refine De.MidT.read (o := ?o4) (v := ?v4) 3 (by decide) ?q4 (by kernel_rfl) (by kernel_rfl) ?w4 (by kernel_rfl) ?y4 ?h4
  case q4 => (simp only [De.g0, De.g1, De.g2]; rfl)
  case w4 => kernel_rfl
  case y4 => (intro w' hw'; obtain ⟨x1, _⟩ := hw'; go_simp; (try with_reducible rfl))
  (try simp only [Act.put, De.l0, De.l1, De.l2])
  refine De.MidT.read (o := ?o5) (v := ?v5) 4 (by decide) ?q5 (by kernel_rfl) (by kernel_rfl) ?w5 (by kernel_rfl) ?y5 ?h5
  case q5 => (simp only [De.g0, De.g1, De.g2]; rfl)
  case w5 => kernel_rfl
  case y5 => (intro w' hw'; obtain ⟨x1, _⟩ := hw'; go_simp; (try with_reducible rfl))
  (try simp only [Act.put, De.l0, De.l1, De.l2])
  refine De.MidT.read (o := ?o6) (v := ?v6) 5 (by decide) ?q6 (by kernel_rfl) (by kernel_rfl) ?w6 (by kernel_rfl) ?y6 ?h6
  case q6 => (simp only [De.g0, De.g1, De.g2]; rfl)
  case w6 => kernel_rfl
  case y6 => (intro w' hw'; obtain ⟨x1, _⟩ := hw'; go_simp; (try with_reducible rfl))
  (try simp only [Act.put, De.l0, De.l1, De.l2])
  refine De.MidT.read (o := ?o7) (v := ?v7) 6 (by decide) ?q7 (by kernel_rfl) (by kernel_rfl) ?w7 (by kernel_rfl) ?y7 ?h7
  case q7 => (simp only [De.g0, De.g1, De.g2]; rfl)
  case w7 => kernel_rfl
  case y7 => (intro w' hw'; obtain ⟨x1, _⟩ := hw'; go_simp; (try with_reducible rfl))
  (try simp only [Act.put, De.l0, De.l1, De.l2])
  refine De.MidT.read (o := ?o8) (v := ?v8) 7 (by decide) ?q8 (by kernel_rfl) (by kernel_rfl) ?w8 (by kernel_rfl) ?y8 ?h8
  case q8 => (simp only [De.g0, De.g1, De.g2]; rfl)
  case w8 => kernel_rfl
  case y8 => (intro w' hw'; obtain ⟨x1, _⟩ := hw'; go_simp; (try with_reducible rfl))
  (try simp only [Act.put, De.l0, De.l1, De.l2])
  (try refine De.MidT.tail ?_)
  refine De.Tr.two (i := 8) (j := 12) (o := ?o10) (p := ?o9) (by kernel_rfl) ?q10 ?g10 ?q9 ?g9 ?h10 ?h9
  case q10 => (simp only [De.g0, De.g1, De.g2]; rfl)
  case g10 => rfl
  case q9 => (simp only [De.g0, De.g1, De.g2]; rfl)
  case g9 => rfl
  · refine wp_ask D _ _ 37 (.pointer (some ⟨gh, 0, none⟩)) rfl rfl rfl (HDO.out _ HB5.out.drew) ?_
    rintro e w6 ⟨f, cap, V', rfl, hH6, hV6, hF6, hU6⟩
    refine ⟨_, rfl, ⟨_, rfl⟩, trivial, ?_⟩
    (try simp only [Act.put, De.l0, De.l1, De.l2])
    refine De.MidT.read2 (o := ?o11) (v := ?v11) 9 (by decide) ?q11 (by kernel_rfl) (by kernel_rfl) ?w11 ?y11 ?h11
    case q11 => (simp only [De.g0, De.g1, De.g2]; rfl)
    case w11 => kernel_rfl
    case y11 => (intro b w' hw'; clear hw'; go_simp; (try with_reducible rfl))
    (try simp only [Act.put, De.l0, De.l1, De.l2])
    refine De.MidT.read2 (o := ?o12) (v := ?v12) 10 (by decide) ?q12 (by kernel_rfl) (by kernel_rfl) ?w12 ?y12 ?h12
    case q12 => (simp only [De.g0, De.g1, De.g2]; rfl)
    case w12 => kernel_rfl
    case y12 => (intro b w' hw'; clear hw'; go_simp; (try with_reducible rfl))
    (try simp only [Act.put, De.l0, De.l1, De.l2])
    refine De.MidT.read2 (o := ?o13) (v := ?v13) 11 (by decide) ?q13 (by kernel_rfl) (by kernel_rfl) ?w13 ?y13 ?h13
    case q13 => (simp only [De.g0, De.g1, De.g2]; rfl)
    case w13 => kernel_rfl
    case y13 => (intro b w' hw'; clear hw'; go_simp; (try with_reducible rfl))
    (try simp only [Act.put, De.l0, De.l1, De.l2])
    (try refine De.MidT.tail ?_)
    refine De.Tr.one (i := 12) (o := ?o14) (by kernel_rfl) ?q14 ?g14 ?h14
    case q14 => (simp only [De.g0, De.g1, De.g2]; rfl)
    case g14 => rfl
    refine wp_alloc_one 1 .nilFunc rfl zero_funcC rfl ?_
    intro w7 g8 hG8 hgr8 hge8
    have hn2 : ¬ Foot V' g2 := not_foot HB0.out.house hF6 HG2E.out (show g2 < w5.heap.size from HG5.out.lt)
    have hn8 : ¬ Foot V' g8 := fun hf => by have := hH6.lt hf; omega
    have z5 : w5.heap.size ≤ w6.heap.size := hF6.size
    have z7 := hgr8.size
    have HB57 : Hid (∀ i, i < w6.heap.size → w7.heap[i]? = w6.heap[i]?) := fun i hi => hgr8.block i hi (by simp)
    have n28 : g2 ≠ g8 := fun e => by have := HG5.out.lt; omega
    have HH7 := Lib.hid (hH6.callee (below_grown hgr8))
    have HFF : Hid (∀ w9 : World, (∀ i, i < w.heap.size → w9.heap[i]? = w7.heap[i]?) → (w9.os = w7.os ∧ w9.tape = w7.tape ∧ w9.output = w7.output ∧ w7.heap.size ≤ w9.heap.size) → Frm (Foot V) w (Foot V') w9) := fun w9 h1 h2 =>
      frm_end HB5.out.drew hF6 (fun i hi => (h1 i hi).trans (HB57.out i (by have := HB5.out.size; omega))) ⟨h2.1.trans hgr8.os, h2.2.1.trans hgr8.tape, h2.2.2.1.trans hgr8.output, Nat.le_trans z7 h2.2.2.2⟩
    have HG27 : Hid (∃ v, Blk w7 g2 28 #[v]) := by
      have h2 : w6.heap[g2]? = w5.heap[g2]? := hF6.block g2 (show g2 < w5.heap.size from HG5.out.lt) (fun hf => by have := HB0.out.house.lt hf; have := HG2E.out; omega)
      exact ⟨_, (HB57.out g2 (by have := HG5.out.lt; omega)).trans (h2.trans HG5.out)⟩
    have HUN : Hid ((∀ args w, (callFunc f args).run Tryz.prog w = .ok (.enter f args) w) ∧ ∀ w'', w''.os = w7.os → w''.tape = w7.tape → w''.output = w7.output → w7.heap.size ≤ w''.heap.size → (∀ i, i < w7.heap.size → i ≠ g2 → i ≠ g8 → w''.heap[i]? = w7.heap[i]?) → Calls Tryz.prog f cap w'' fun e w3 => e = .returned (.tuple #[]) ∧ ∃ V3, HouseAt w3 V3 B.house ∧ V3 .house = V .house ∧ (w3.os = w''.os ∧ w3.tape = w''.tape ∧ w3.output = w''.output ∧ w''.heap.size ≤ w3.heap.size) ∧ (∀ i, i < w5.heap.size → ¬ Foot V i → w3.heap[i]? = w''.heap[i]?) ∧ ∀ i, Foot V3 i → Foot V i ∨ w.heap.size ≤ i) := by
      refine ⟨hU6.1, fun w'' h1 h2 h3 h4 h5 => (hU6.2 w'' ⟨h1.trans hgr8.os, h2.trans hgr8.tape, h3.trans hgr8.output, Nat.le_trans z7 h4, fun i hi hor => ?_⟩).mono ?_⟩
      · refine (h5 i (Nat.lt_of_lt_of_le hi z7) (fun e => ?_) (by omega)).trans (HB57.out i hi)
        rcases hor with h | h
        · have h : w5.heap.size ≤ i := h
          have := HG5.out.lt
          omega
        · have := HB0.out.house.lt h
          have := HG2E.out
          omega
      · rintro e w3 ⟨he, V3, k1, k2, k3⟩
        exact ⟨he, V3, k1, k2, ⟨k3.os, k3.tape, k3.output, k3.size⟩, k3.block, fun i hi => (k3.foot i hi).imp id (fun (h : w5.heap.size ≤ i) => by have := HB5.out.size; omega)⟩
    have HZ : Hid (w5.heap.size ≤ w7.heap.size) := Nat.le_trans z5 z7
    have HG8 := Lib.hid hG8
    have HN : Hid (¬ Foot V' g2 ∧ ¬ Foot V' g8 ∧ g2 ≠ g8 ∧ w.heap.size ≤ g8) := ⟨hn2, hn8, n28, by have := HB5.out.size; omega⟩
    have HVV := Lib.hid hV6
    have HG17 : Hid (Blk w7 g1 4 #[.bool stay] ∧ g1 ≠ g8) := by
      have hl := HG1.out.1.lt
      have h2 : w6.heap[g1]? = w5.heap[g1]? := hF6.block g1 (show g1 < w5.heap.size from hl) (fun hf => by have := HB0.out.house.lt hf; have := HG1.out.2.1; omega)
      exact ⟨(HB57.out g1 (by omega)).trans (h2.trans HG1.out.1), by omega⟩
    have HGB7 : Hid (Blk w7 gb 39 #[.pointer (some ⟨gh, 0, none⟩), vl]) := by
      have hl := HGB.out.lt
      have hz := HB5.out.size
      have h2 : w6.heap[gb]? = w5.heap[gb]? := hF6.block gb (show gb < w5.heap.size by omega) HB0.out.nb
      exact (HB57.out gb (by omega)).trans (h2.trans (HGB.out.callee HB5.out))
    clear hU6 hG8 hgr8 hge8 hH6 hV6 hF6 hn2 hn8 z5 z7 n28 HB57
    refine ⟨⟨_, rfl⟩, trivial, ?_⟩
    have c7 : w7.cell? ⟨g8, 0, none⟩ = some .nilFunc := HG8.out.at_ 0 rfl
    have f7 := HG8.out.frozen 0
    (try simp only [Act.put, De.l0, De.l1, De.l2])
    (try refine De.MidT.tail ?_)
    refine De.Tr.one (i := 13) (o := ?o15) (by kernel_rfl) ?q15 ?g15 ?h15
    case q15 => (simp only [De.g0, De.g1, De.g2]; rfl)
    case g15 => rfl
    refine wp_setcell 1 _ _ rfl g8 0 (.func (.func f) #[] cap) rfl rfl (by go_simp) ?_
    obtain ⟨w8, hw8⟩ : ∃ w8, w7.setCell ⟨g8, 0, none⟩ (.func (.func f) #[] cap) = w8 := ⟨_, rfl⟩
    rw [hw8]
    have s8 : ∀ i, i ≠ g8 → w8.heap[i]? = w7.heap[i]? := fun i hi => by rw [← hw8]; exact Below.heap_setCell w7 ⟨g8, 0, none⟩ _ i hi
    have x8 : w8.os = w7.os ∧ w8.tape = w7.tape ∧ w8.output = w7.output ∧ w8.heap.size = w7.heap.size := by rw [← hw8]; exact ⟨rfl, rfl, rfl, by simp⟩
    have hG88 : Blk w8 g8 1 #[.func (.func f) #[] cap] := by rw [← hw8]; exact HG8.out.set_ 0 _
    obtain ⟨v2, hG2⟩ := HG27.out
    have hG28 : Blk w8 g2 28 #[v2] := (s8 g2 HN.out.2.2.1).trans hG2
    have c8 : w8.cell? ⟨g2, 0, none⟩ = some v2 := hG28.at_ 0 rfl
    have f8 := hG28.frozen 0
    clear hw8 c7 f7
    refine ⟨⟨_, rfl⟩, trivial, ?_⟩
    (try simp only [Act.put, De.l0, De.l1, De.l2])
    (try refine De.MidT.tail ?_)
    refine De.Tr.one (i := 14) (o := ?o16) (by kernel_rfl) ?q16 ?g16 ?h16
    case q16 => (simp only [De.g0, De.g1, De.g2]; rfl)
    case g16 => rfl
    refine wp_setcell 28 _ _ rfl g2 0 (.int .i64 0) rfl rfl (by go_simp) ?_
    obtain ⟨w9, hw9⟩ : ∃ w9, w8.setCell ⟨g2, 0, none⟩ (.int .i64 0) = w9 := ⟨_, rfl⟩
    rw [hw9]
    have s9 : ∀ i, i ≠ g2 → w9.heap[i]? = w8.heap[i]? := fun i hi => by rw [← hw9]; exact Below.heap_setCell w8 ⟨g2, 0, none⟩ _ i hi
    have x9 : w9.os = w8.os ∧ w9.tape = w8.tape ∧ w9.output = w8.output ∧ w9.heap.size = w8.heap.size := by rw [← hw9]; exact ⟨rfl, rfl, rfl, by simp⟩
    have hG29 : Blk w9 g2 28 #[.int .i64 0] := by rw [← hw9]; exact hG28.set_ 0 _
    have HG29 := Lib.hid hG29
    have HG89 : Hid (Blk w9 g8 1 #[.func (.func f) #[] cap]) := (s9 g8 (Ne.symm HN.out.2.2.1)).trans hG88
    have HX9 : Hid ((∀ i, i ≠ g2 → i ≠ g8 → w9.heap[i]? = w7.heap[i]?) ∧ w9.os = w7.os ∧ w9.tape = w7.tape ∧ w9.output = w7.output ∧ w9.heap.size = w7.heap.size) := ⟨fun i h1 h2 => (s9 i h1).trans (s8 i h2), x9.1.trans x8.1, x9.2.1.trans x8.2.1, x9.2.2.1.trans x8.2.2.1, x9.2.2.2.trans x8.2.2.2⟩
    have c9 : w9.cell? ⟨g2, 0, none⟩ = some (.int .i64 0) := hG29.at_ 0 rfl
    have f9 := hG29.frozen 0
    have HG19 : Hid (Blk w9 g1 4 #[.bool stay]) := (HX9.out.1 g1 HG1.out.2.2 HG17.out.2).trans HG17.out.1
    have cB9 : w9.cell? ⟨gb, 1, none⟩ = some (.slice Al nl cl) := by
      have hb : Blk w9 gb 39 #[.pointer (some ⟨gh, 0, none⟩), vl] := by
        have hlt := HGB.out.lt
        have hz := HB5.out.size
        exact (HX9.out.1 gb (by have := HG2E.out; omega) (by have := HN.out.2.2.2; omega)).trans (HGB7.out)
      exact hb.at_ 1 (congrArg some HVL.out)
    clear hw9 c8 f8 s8 s9 x8 x9 hG29 hG28 hG2 hG88
    refine ⟨⟨_, rfl⟩, trivial, ?_⟩
    (try refine De.MidT.tail ?_)
    refine De.Tr.done (by kernel_rfl) ?_
    (try simp only [Act.put, De.l0, De.l1, De.l2])
    rcases HRR.out with ⟨rfl, rfl, rfl⟩ | ⟨rfl, hn100, hSS⟩
    · have HEN := HUN.out.1
      go_wp2_with (fail)
      obtain ⟨wE, hwE⟩ : ∃ wE, w9.setCell ⟨g2, 0, none⟩ (.int .i64 16) = wE := ⟨_, rfl⟩
      rw [hwE]
      have hGE : Blk wE g2 28 #[.int .i64 16] := by rw [← hwE]; exact HG29.out.set_ 0 _
      have sE : ∀ i, i ≠ g2 → wE.heap[i]? = w9.heap[i]? := fun i hi => by rw [← hwE]; exact Below.heap_setCell w9 ⟨g2, 0, none⟩ _ i hi
      have xE : wE.os = w9.os ∧ wE.tape = w9.tape ∧ wE.output = w9.output ∧ wE.heap.size = w9.heap.size := by rw [← hwE]; exact ⟨rfl, rfl, rfl, by simp⟩
      have hb1 : Blk wE g1 _ _ := (sE g1 HG1.out.2.2).trans HG19.out
      have hb8 : Blk wE g8 _ _ := (sE g8 (Ne.symm HN.out.2.2.1)).trans HG89.out
      have hsz : wE.heap.size = w7.heap.size := xE.2.2.2.trans HX9.out.2.2.2.2
      have hUc := HUN.out.2 wE (xE.1.trans HX9.out.2.1) (xE.2.1.trans HX9.out.2.2.1) (xE.2.2.1.trans HX9.out.2.2.2.1) (by rw [hsz]; exact Nat.le_refl _) (fun i _ h1 h2 => (sE i h1).trans (HX9.out.1 i h1 h2))
      refine leaves_cons (f := 93) (args := #[.pointer (some ⟨g1, 0, none⟩), .pointer (some ⟨g2, 0, none⟩), .pointer (some ⟨g8, 0, none⟩)]) (by simp) (by simp [go_sem]) ?_
      refine (after_undo (hb1.at_ 0 rfl) (hGE.at_ 0 rfl) (hb8.at_ 0 rfl) (by simp) HEN hUc).mono ?_
      rintro e u' w10 ⟨rfl, rfl, V3, k1, k2, k3, k4, k5⟩
      have hl2 := HG5.out.lt
      have hG10 : Blk w10 g2 _ _ := (k4 g2 hl2 (fun hf => by have := HB0.out.house.lt hf; have := HG2E.out; omega)).trans hGE
      have hFE := HFF.out wE (fun i hi => (sE i (by have := HG2E.out; omega)).trans (HX9.out.1 i (by have := HG2E.out; omega) (by have := HN.out.2.2.2; omega))) ⟨xE.1.trans HX9.out.2.1, xE.2.1.trans HX9.out.2.2.1, xE.2.2.1.trans HX9.out.2.2.2.1, by rw [hsz]; exact Nat.le_refl _⟩
      have hz5 := HB5.out.size
      exact ⟨_, results_errno rfl _ rfl (hG10.at_ 0 rfl), rfl, V3, k1, k2, k3.1.trans hFE.os, k3.2.1.trans hFE.tape, k3.2.2.1.trans hFE.output, Nat.le_trans hFE.size k3.2.2.2, fun i hi hn => (k4 i (by omega) hn).trans (hFE.block i hi hn), k5⟩
    · have h100 : ((nl : Int) == 100) = false := by simp; omega
      have HSS := Lib.hid hSS
      clear hSS
      have HEN := HUN.out.1
      go_wp2_with (fail)
      obtain ⟨wE, hwE⟩ : ∃ wE, w9.setCell ⟨g2, 0, none⟩ (.int .i64 0) = wE := ⟨_, rfl⟩
      rw [hwE]
      have hGE : Blk wE g2 28 #[.int .i64 0] := by rw [← hwE]; exact HG29.out.set_ 0 _
      have sE : ∀ i, i ≠ g2 → wE.heap[i]? = w9.heap[i]? := fun i hi => by rw [← hwE]; exact Below.heap_setCell w9 ⟨g2, 0, none⟩ _ i hi
      have xE : wE.os = w9.os ∧ wE.tape = w9.tape ∧ wE.output = w9.output ∧ wE.heap.size = w9.heap.size := by rw [← hwE]; exact ⟨rfl, rfl, rfl, by simp⟩
      have hSS := HSS.out
      cases stay with
      | true =>
        rw [if_pos rfl] at hSS
        subst hSS
        have hb1 : Blk wE g1 _ _ := (sE g1 HG1.out.2.2).trans HG19.out
        refine leaves_cons (f := 93) (args := #[.pointer (some ⟨g1, 0, none⟩), .pointer (some ⟨g2, 0, none⟩), .pointer (some ⟨g8, 0, none⟩)]) (by simp) (by simp [go_sem]) ?_
        refine (after_keep (hb1.at_ 0 rfl) (hGE.at_ 0 rfl)).mono ?_
        rintro e u' w10 ⟨rfl, rfl, rfl⟩
        refine ⟨.int .i64 0, results_errno rfl _ rfl (hGE.at_ 0 rfl), rfl, V', HH7.out.same (fun i hi => (sE i (fun e => HN.out.1 (by rw [← e]; exact hi))).trans (HX9.out.1 i (fun e => HN.out.1 (by rw [← e]; exact hi)) (fun e => HN.out.2.1 (by rw [← e]; exact hi)))), HVV.out, HFF.out _ (fun i hi => (sE i (by have := HG2E.out; omega)).trans (HX9.out.1 i (by have := HG2E.out; omega) (by have := HN.out.2.2.2; omega))) ⟨xE.1.trans HX9.out.2.1, xE.2.1.trans HX9.out.2.2.1, xE.2.2.1.trans HX9.out.2.2.2.1, by rw [xE.2.2.2, HX9.out.2.2.2.2]; exact Nat.le_refl _⟩⟩
      | false =>
        rw [if_neg (by decide)] at hSS
        subst hSS
        have hb1 : Blk wE g1 _ _ := (sE g1 HG1.out.2.2).trans HG19.out
        have hb8 : Blk wE g8 _ _ := (sE g8 (Ne.symm HN.out.2.2.1)).trans HG89.out
        have hsz : wE.heap.size = w7.heap.size := xE.2.2.2.trans HX9.out.2.2.2.2
        have hUc := HUN.out.2 wE (xE.1.trans HX9.out.2.1) (xE.2.1.trans HX9.out.2.2.1) (xE.2.2.1.trans HX9.out.2.2.2.1) (by rw [hsz]; exact Nat.le_refl _) (fun i _ h1 h2 => (sE i h1).trans (HX9.out.1 i h1 h2))
        refine leaves_cons (f := 93) (args := #[.pointer (some ⟨g1, 0, none⟩), .pointer (some ⟨g2, 0, none⟩), .pointer (some ⟨g8, 0, none⟩)]) (by simp) (by simp [go_sem]) ?_
        refine (after_undo (hb1.at_ 0 rfl) (hGE.at_ 0 rfl) (hb8.at_ 0 rfl) (by simp) HEN hUc).mono ?_
        rintro e u' w10 ⟨rfl, rfl, V3, k1, k2, k3, k4, k5⟩
        have hl2 := HG5.out.lt
        have hG10 : Blk w10 g2 _ _ := (k4 g2 hl2 (fun hf => by have := HB0.out.house.lt hf; have := HG2E.out; omega)).trans hGE
        have hFE := HFF.out wE (fun i hi => (sE i (by have := HG2E.out; omega)).trans (HX9.out.1 i (by have := HG2E.out; omega) (by have := HN.out.2.2.2; omega))) ⟨xE.1.trans HX9.out.2.1, xE.2.1.trans HX9.out.2.2.1, xE.2.2.1.trans HX9.out.2.2.2.1, by rw [hsz]; exact Nat.le_refl _⟩
        have hz5 := HB5.out.size
        exact ⟨_, results_errno rfl _ rfl (hG10.at_ 0 rfl), rfl, V3, k1, k2, k3.1.trans hFE.os, k3.2.1.trans hFE.tape, k3.2.2.1.trans hFE.output, Nat.le_trans hFE.size k3.2.2.2, fun i hi hn => (k4 i (by omega) hn).trans (hFE.block i hi hn), k5⟩
  · refine wp_alloc_one 1 .nilFunc rfl zero_funcC rfl ?_
    intro w6 g8 hG8 hgr8 hge8
    have hb6 : Below w5.heap.size w5 w6 := (Below.refl _ _).drew.trans (below_grown (w := w5.drew) hgr8)
    have HB6 : Hid (Below w.heap.size w w6) := HB5.out.trans (hb6.mono HB5.out.size)
    have HG8 := Lib.hid hG8
    have HG28 : Hid (Blk w6 g2 28 #[.int .i64 0]) := HG5.out.callee hb6
    have hge8' : w5.heap.size ≤ g8 := hge8
    have HZ56 : Hid (w5.heap.size ≤ w6.heap.size) := hb6.size
    have HG16 : Hid (Blk w6 g1 4 #[.bool stay] ∧ g1 ≠ g8) := ⟨HG1.out.1.callee hb6, fun e => by have := HG1.out.1.lt; omega⟩
    have HNE : Hid (g2 ≠ g8 ∧ w.heap.size ≤ g8) := ⟨fun e => by have := HG5.out.lt; omega, by have := HB5.out.size; omega⟩
    have cB : w6.cell? ⟨gb, 0, none⟩ = some (.pointer (some ⟨gh, 0, none⟩)) := (HGB.out.callee HB6.out).at_ 0 rfl
    have CB6 := Lib.hid cB
    clear cB hgr8 hge8 hge8' hb6 hG8
    refine ⟨⟨_, rfl⟩, ⟨CB6.out, trivial⟩, ?_⟩
    (try simp only [Act.put, De.l0, De.l1, De.l2])
    (try refine De.MidT.tail ?_)
    refine De.Tr.one (i := 8) (o := ?o17) (by kernel_rfl) ?q17 ?g17 ?h17
    case q17 => (simp only [De.g0, De.g1, De.g2]; rfl)
    case g17 => rfl
    refine wp_ask D _ _ 37 (.pointer (some ⟨gh, 0, none⟩)) rfl rfl rfl (HDO.out _ HB6.out) ?_
    rintro e w7 ⟨f, cap, V', rfl, hH6, hV6, hF6, hU6⟩
    have HH7 := Lib.hid hH6
    have HFF : Hid (∀ w9 : World, (∀ i, i < w.heap.size → w9.heap[i]? = w7.heap[i]?) → (w9.os = w7.os ∧ w9.tape = w7.tape ∧ w9.output = w7.output ∧ w7.heap.size ≤ w9.heap.size) → Frm (Foot V) w (Foot V') w9) := fun w9 h1 h2 =>
      frm_end HB6.out hF6 h1 h2
    have HUN : Hid ((∀ args w, (callFunc f args).run Tryz.prog w = .ok (.enter f args) w) ∧ ∀ w'', w''.os = w7.os → w''.tape = w7.tape → w''.output = w7.output → w7.heap.size ≤ w''.heap.size → (∀ i, i < w7.heap.size → i ≠ g2 → i ≠ g8 → w''.heap[i]? = w7.heap[i]?) → Calls Tryz.prog f cap w'' fun e w3 => e = .returned (.tuple #[]) ∧ ∃ V3, HouseAt w3 V3 B.house ∧ V3 .house = V .house ∧ (w3.os = w''.os ∧ w3.tape = w''.tape ∧ w3.output = w''.output ∧ w''.heap.size ≤ w3.heap.size) ∧ (∀ i, i < w5.heap.size → ¬ Foot V i → w3.heap[i]? = w''.heap[i]?) ∧ ∀ i, Foot V3 i → Foot V i ∨ w.heap.size ≤ i) := by
      refine ⟨hU6.1, fun w'' h1 h2 h3 h4 h5 => (hU6.2 w'' ⟨h1, h2, h3, h4, fun i hi hor => ?_⟩).mono ?_⟩
      · refine h5 i hi (fun e => ?_) (fun e => ?_)
        · rcases hor with h | h
          · have := HG28.out.lt
            omega
          · have := HB0.out.house.lt h
            have := HG2E.out
            omega
        · rcases hor with h | h
          · have := HG8.out.lt
            omega
          · have := HB0.out.house.lt h
            have := HNE.out.2
            omega
      · rintro e w3 ⟨he, V3, k1, k2, k3⟩
        exact ⟨he, V3, k1, k2, ⟨k3.os, k3.tape, k3.output, k3.size⟩, fun i hi hn => k3.block i (Nat.lt_of_lt_of_le hi HZ56.out) hn, fun i hi => (k3.foot i hi).imp id (fun h => by have := HB6.out.size; omega)⟩
    have HZ : Hid (w5.heap.size ≤ w7.heap.size) := Nat.le_trans HZ56.out hF6.size
    have HG27 : Hid (∃ v, Blk w7 g2 28 #[v]) := ⟨_, (hF6.block g2 HG28.out.lt (fun hf => by have := HB0.out.house.lt hf; have := HG2E.out; omega)).trans HG28.out⟩
    have HN : Hid (¬ Foot V' g2 ∧ ¬ Foot V' g8 ∧ g2 ≠ g8 ∧ w.heap.size ≤ g8) := ⟨not_foot HB0.out.house hF6 HG2E.out HG28.out.lt, not_foot HB0.out.house hF6 HNE.out.2 HG8.out.lt, HNE.out.1, HNE.out.2⟩
    replace HG8 : Hid (Blk w7 g8 1 #[.nilFunc]) := (hF6.block g8 HG8.out.lt (fun hf => by have := HB0.out.house.lt hf; have := HNE.out.2; omega)).trans HG8.out
    have HVV := Lib.hid hV6
    have HG17 : Hid (Blk w7 g1 4 #[.bool stay] ∧ g1 ≠ g8) := by
      have hl := HG1.out.1.lt
      have hz := HZ56.out
      have h2 : w7.heap[g1]? = w6.heap[g1]? := hF6.block g1 (by omega) (fun hf => by have := HB0.out.house.lt hf; have := HG1.out.2.1; omega)
      exact ⟨h2.trans HG16.out.1, HG16.out.2⟩
    have HGB7 : Hid (Blk w7 gb 39 #[.pointer (some ⟨gh, 0, none⟩), vl]) := by
      have hl := HGB.out.lt
      have hz := HB6.out.size
      exact (hF6.block gb (by omega) HB0.out.nb).trans (HGB.out.callee HB6.out)
    clear hH6 hV6 hF6 hU6
    refine ⟨_, rfl, ⟨_, rfl⟩, trivial, ?_⟩
    (try simp only [Act.put, De.l0, De.l1, De.l2])
    refine De.MidT.read2 (o := ?o18) (v := ?v18) 9 (by decide) ?q18 (by kernel_rfl) (by kernel_rfl) ?w18 ?y18 ?h18
    case q18 => (simp only [De.g0, De.g1, De.g2]; rfl)
    case w18 => kernel_rfl
    case y18 => (intro b w' hw'; clear hw'; go_simp; (try with_reducible rfl))
    (try simp only [Act.put, De.l0, De.l1, De.l2])
    refine De.MidT.read2 (o := ?o19) (v := ?v19) 10 (by decide) ?q19 (by kernel_rfl) (by kernel_rfl) ?w19 ?y19 ?h19
    case q19 => (simp only [De.g0, De.g1, De.g2]; rfl)
    case w19 => kernel_rfl
    case y19 => (intro b w' hw'; clear hw'; go_simp; (try with_reducible rfl))
    (try simp only [Act.put, De.l0, De.l1, De.l2])
    refine De.MidT.read2 (o := ?o20) (v := ?v20) 11 (by decide) ?q20 (by kernel_rfl) (by kernel_rfl) ?w20 ?y20 ?h20
    case q20 => (simp only [De.g0, De.g1, De.g2]; rfl)
    case w20 => kernel_rfl
    case y20 => (intro b w' hw'; clear hw'; go_simp; (try with_reducible rfl))
    (try simp only [Act.put, De.l0, De.l1, De.l2])
    have c7 : w7.cell? ⟨g8, 0, none⟩ = some .nilFunc := HG8.out.at_ 0 rfl
    have f7 := HG8.out.frozen 0
    (try simp only [Act.put, De.l0, De.l1, De.l2])
    (try refine De.MidT.tail ?_)
    refine De.Tr.one (i := 13) (o := ?o21) (by kernel_rfl) ?q21 ?g21 ?h21
    case q21 => (simp only [De.g0, De.g1, De.g2]; rfl)
    case g21 => rfl
    refine wp_setcell 1 _ _ rfl g8 0 (.func (.func f) #[] cap) rfl rfl (by go_simp) ?_
    obtain ⟨w8, hw8⟩ : ∃ w8, w7.setCell ⟨g8, 0, none⟩ (.func (.func f) #[] cap) = w8 := ⟨_, rfl⟩
    rw [hw8]
    have s8 : ∀ i, i ≠ g8 → w8.heap[i]? = w7.heap[i]? := fun i hi => by rw [← hw8]; exact Below.heap_setCell w7 ⟨g8, 0, none⟩ _ i hi
    have x8 : w8.os = w7.os ∧ w8.tape = w7.tape ∧ w8.output = w7.output ∧ w8.heap.size = w7.heap.size := by rw [← hw8]; exact ⟨rfl, rfl, rfl, by simp⟩
    have hG88 : Blk w8 g8 1 #[.func (.func f) #[] cap] := by rw [← hw8]; exact HG8.out.set_ 0 _
    obtain ⟨v2, hG2⟩ := HG27.out
    have hG28 : Blk w8 g2 28 #[v2] := (s8 g2 HN.out.2.2.1).trans hG2
    have c8 : w8.cell? ⟨g2, 0, none⟩ = some v2 := hG28.at_ 0 rfl
    have f8 := hG28.frozen 0
    clear hw8 c7 f7
    refine ⟨⟨_, rfl⟩, trivial, ?_⟩
    (try simp only [Act.put, De.l0, De.l1, De.l2])
    (try refine De.MidT.tail ?_)
    refine De.Tr.one (i := 14) (o := ?o22) (by kernel_rfl) ?q22 ?g22 ?h22
    case q22 => (simp only [De.g0, De.g1, De.g2]; rfl)
    case g22 => rfl
    refine wp_setcell 28 _ _ rfl g2 0 (.int .i64 0) rfl rfl (by go_simp) ?_
    obtain ⟨w9, hw9⟩ : ∃ w9, w8.setCell ⟨g2, 0, none⟩ (.int .i64 0) = w9 := ⟨_, rfl⟩
    rw [hw9]
    have s9 : ∀ i, i ≠ g2 → w9.heap[i]? = w8.heap[i]? := fun i hi => by rw [← hw9]; exact Below.heap_setCell w8 ⟨g2, 0, none⟩ _ i hi
    have x9 : w9.os = w8.os ∧ w9.tape = w8.tape ∧ w9.output = w8.output ∧ w9.heap.size = w8.heap.size := by rw [← hw9]; exact ⟨rfl, rfl, rfl, by simp⟩
    have hG29 : Blk w9 g2 28 #[.int .i64 0] := by rw [← hw9]; exact hG28.set_ 0 _
    have HG29 := Lib.hid hG29
    have HG89 : Hid (Blk w9 g8 1 #[.func (.func f) #[] cap]) := (s9 g8 (Ne.symm HN.out.2.2.1)).trans hG88
    have HX9 : Hid ((∀ i, i ≠ g2 → i ≠ g8 → w9.heap[i]? = w7.heap[i]?) ∧ w9.os = w7.os ∧ w9.tape = w7.tape ∧ w9.output = w7.output ∧ w9.heap.size = w7.heap.size) := ⟨fun i h1 h2 => (s9 i h1).trans (s8 i h2), x9.1.trans x8.1, x9.2.1.trans x8.2.1, x9.2.2.1.trans x8.2.2.1, x9.2.2.2.trans x8.2.2.2⟩
    have c9 : w9.cell? ⟨g2, 0, none⟩ = some (.int .i64 0) := hG29.at_ 0 rfl
    have f9 := hG29.frozen 0
    have HG19 : Hid (Blk w9 g1 4 #[.bool stay]) := (HX9.out.1 g1 HG1.out.2.2 HG17.out.2).trans HG17.out.1
    have cB9 : w9.cell? ⟨gb, 1, none⟩ = some (.slice Al nl cl) := by
      have hb : Blk w9 gb 39 #[.pointer (some ⟨gh, 0, none⟩), vl] := by
        have hlt := HGB.out.lt
        have hz := HB5.out.size
        exact (HX9.out.1 gb (by have := HG2E.out; omega) (by have := HN.out.2.2.2; omega)).trans (HGB7.out)
      exact hb.at_ 1 (congrArg some HVL.out)
    clear hw9 c8 f8 s8 s9 x8 x9 hG29 hG28 hG2 hG88
    refine ⟨⟨_, rfl⟩, trivial, ?_⟩
    (try refine De.MidT.tail ?_)
    refine De.Tr.done (by kernel_rfl) ?_
    (try simp only [Act.put, De.l0, De.l1, De.l2])
    rcases HRR.out with ⟨rfl, rfl, rfl⟩ | ⟨rfl, hn100, hSS⟩
    · have HEN := HUN.out.1
      go_wp2_with (fail)
      obtain ⟨wE, hwE⟩ : ∃ wE, w9.setCell ⟨g2, 0, none⟩ (.int .i64 16) = wE := ⟨_, rfl⟩
      rw [hwE]
      have hGE : Blk wE g2 28 #[.int .i64 16] := by rw [← hwE]; exact HG29.out.set_ 0 _
      have sE : ∀ i, i ≠ g2 → wE.heap[i]? = w9.heap[i]? := fun i hi => by rw [← hwE]; exact Below.heap_setCell w9 ⟨g2, 0, none⟩ _ i hi
      have xE : wE.os = w9.os ∧ wE.tape = w9.tape ∧ wE.output = w9.output ∧ wE.heap.size = w9.heap.size := by rw [← hwE]; exact ⟨rfl, rfl, rfl, by simp⟩
      have hb1 : Blk wE g1 _ _ := (sE g1 HG1.out.2.2).trans HG19.out
      have hb8 : Blk wE g8 _ _ := (sE g8 (Ne.symm HN.out.2.2.1)).trans HG89.out
      have hsz : wE.heap.size = w7.heap.size := xE.2.2.2.trans HX9.out.2.2.2.2
      have hUc := HUN.out.2 wE (xE.1.trans HX9.out.2.1) (xE.2.1.trans HX9.out.2.2.1) (xE.2.2.1.trans HX9.out.2.2.2.1) (by rw [hsz]; exact Nat.le_refl _) (fun i _ h1 h2 => (sE i h1).trans (HX9.out.1 i h1 h2))
      refine leaves_cons (f := 93) (args := #[.pointer (some ⟨g1, 0, none⟩), .pointer (some ⟨g2, 0, none⟩), .pointer (some ⟨g8, 0, none⟩)]) (by simp) (by simp [go_sem]) ?_
      refine (after_undo (hb1.at_ 0 rfl) (hGE.at_ 0 rfl) (hb8.at_ 0 rfl) (by simp) HEN hUc).mono ?_
      rintro e u' w10 ⟨rfl, rfl, V3, k1, k2, k3, k4, k5⟩
      have hl2 := HG5.out.lt
      have hG10 : Blk w10 g2 _ _ := (k4 g2 hl2 (fun hf => by have := HB0.out.house.lt hf; have := HG2E.out; omega)).trans hGE
      have hFE := HFF.out wE (fun i hi => (sE i (by have := HG2E.out; omega)).trans (HX9.out.1 i (by have := HG2E.out; omega) (by have := HN.out.2.2.2; omega))) ⟨xE.1.trans HX9.out.2.1, xE.2.1.trans HX9.out.2.2.1, xE.2.2.1.trans HX9.out.2.2.2.1, by rw [hsz]; exact Nat.le_refl _⟩
      have hz5 := HB5.out.size
      exact ⟨_, results_errno rfl _ rfl (hG10.at_ 0 rfl), rfl, V3, k1, k2, k3.1.trans hFE.os, k3.2.1.trans hFE.tape, k3.2.2.1.trans hFE.output, Nat.le_trans hFE.size k3.2.2.2, fun i hi hn => (k4 i (by omega) hn).trans (hFE.block i hi hn), k5⟩
    · have h100 : ((nl : Int) == 100) = false := by simp; omega
      have HSS := Lib.hid hSS
      clear hSS
      have HEN := HUN.out.1
      go_wp2_with (fail)
      obtain ⟨wE, hwE⟩ : ∃ wE, w9.setCell ⟨g2, 0, none⟩ (.int .i64 0) = wE := ⟨_, rfl⟩
      rw [hwE]
      have hGE : Blk wE g2 28 #[.int .i64 0] := by rw [← hwE]; exact HG29.out.set_ 0 _
      have sE : ∀ i, i ≠ g2 → wE.heap[i]? = w9.heap[i]? := fun i hi => by rw [← hwE]; exact Below.heap_setCell w9 ⟨g2, 0, none⟩ _ i hi
      have xE : wE.os = w9.os ∧ wE.tape = w9.tape ∧ wE.output = w9.output ∧ wE.heap.size = w9.heap.size := by rw [← hwE]; exact ⟨rfl, rfl, rfl, by simp⟩
      have hSS := HSS.out
      cases stay with
      | true =>
        rw [if_pos rfl] at hSS
        subst hSS
        have hb1 : Blk wE g1 _ _ := (sE g1 HG1.out.2.2).trans HG19.out
        refine leaves_cons (f := 93) (args := #[.pointer (some ⟨g1, 0, none⟩), .pointer (some ⟨g2, 0, none⟩), .pointer (some ⟨g8, 0, none⟩)]) (by simp) (by simp [go_sem]) ?_
        refine (after_keep (hb1.at_ 0 rfl) (hGE.at_ 0 rfl)).mono ?_
        rintro e u' w10 ⟨rfl, rfl, rfl⟩
        refine ⟨.int .i64 0, results_errno rfl _ rfl (hGE.at_ 0 rfl), rfl, V', HH7.out.same (fun i hi => (sE i (fun e => HN.out.1 (by rw [← e]; exact hi))).trans (HX9.out.1 i (fun e => HN.out.1 (by rw [← e]; exact hi)) (fun e => HN.out.2.1 (by rw [← e]; exact hi)))), HVV.out, HFF.out _ (fun i hi => (sE i (by have := HG2E.out; omega)).trans (HX9.out.1 i (by have := HG2E.out; omega) (by have := HN.out.2.2.2; omega))) ⟨xE.1.trans HX9.out.2.1, xE.2.1.trans HX9.out.2.2.1, xE.2.2.1.trans HX9.out.2.2.2.1, by rw [xE.2.2.2, HX9.out.2.2.2.2]; exact Nat.le_refl _⟩⟩
      | false =>
        rw [if_neg (by decide)] at hSS
        subst hSS
        have hb1 : Blk wE g1 _ _ := (sE g1 HG1.out.2.2).trans HG19.out
        have hb8 : Blk wE g8 _ _ := (sE g8 (Ne.symm HN.out.2.2.1)).trans HG89.out
        have hsz : wE.heap.size = w7.heap.size := xE.2.2.2.trans HX9.out.2.2.2.2
        have hUc := HUN.out.2 wE (xE.1.trans HX9.out.2.1) (xE.2.1.trans HX9.out.2.2.1) (xE.2.2.1.trans HX9.out.2.2.2.1) (by rw [hsz]; exact Nat.le_refl _) (fun i _ h1 h2 => (sE i h1).trans (HX9.out.1 i h1 h2))
        refine leaves_cons (f := 93) (args := #[.pointer (some ⟨g1, 0, none⟩), .pointer (some ⟨g2, 0, none⟩), .pointer (some ⟨g8, 0, none⟩)]) (by simp) (by simp [go_sem]) ?_
        refine (after_undo (hb1.at_ 0 rfl) (hGE.at_ 0 rfl) (hb8.at_ 0 rfl) (by simp) HEN hUc).mono ?_
        rintro e u' w10 ⟨rfl, rfl, V3, k1, k2, k3, k4, k5⟩
        have hl2 := HG5.out.lt
        have hG10 : Blk w10 g2 _ _ := (k4 g2 hl2 (fun hf => by have := HB0.out.house.lt hf; have := HG2E.out; omega)).trans hGE
        have hFE := HFF.out wE (fun i hi => (sE i (by have := HG2E.out; omega)).trans (HX9.out.1 i (by have := HG2E.out; omega) (by have := HN.out.2.2.2; omega))) ⟨xE.1.trans HX9.out.2.1, xE.2.1.trans HX9.out.2.2.1, xE.2.2.1.trans HX9.out.2.2.2.1, by rw [hsz]; exact Nat.le_refl _⟩
        have hz5 := HB5.out.size
        exact ⟨_, results_errno rfl _ rfl (hG10.at_ 0 rfl), rfl, V3, k1, k2, k3.1.trans hFE.os, k3.2.1.trans hFE.tape, k3.2.2.1.trans hFE.output, Nat.le_trans hFE.size k3.2.2.2, fun i hi hn => (k4 i (by omega) hn).trans (hFE.block i hi hn), k5⟩
end
end Dr
end Go.Proofs.YtbgakdpbglpfaaaGreatDoor
