/- A size is told of: what sizing.do leaves. (Printed by gensize.py.) -/
import Derived.Test.YtbgakdpbglpfaaaGreatDoorJds
namespace Go.Proofs.YtbgakdpbglpfaaaGreatDoor
open Go.RowKit
namespace Dr
set_option linter.unusedSimpArgs false
section
variable {w : World} {V : Vals} {S : House}
theorem Grew.trans {w w' w'' : World} {v v' v'' : Value} (h : Grew w w' v v') (h' : Grew w' w'' v' v'') : Grew w w'' v v'' :=
  ⟨h'.os.trans h.os, h'.tape.trans h.tape, h'.output.trans h.output, Nat.le_trans h.size h'.size, fun i hi hn => (h'.block i (Nat.lt_of_lt_of_le hi h.size) (fun e => by
    rcases h.new i e with h1 | h1
    · exact hn h1
    · omega)).trans (h.block i hi hn), fun g hg => by
    rcases h'.new g hg with h1 | h1
    · exact h.new g h1
    · exact Or.inr (Nat.le_trans h.size h1)⟩
theorem Grew.of_below {w w' : World} (hb : Below w.heap.size w w') (v : Value) : Grew w w' v v := ⟨hb.os, hb.tape, hb.output, hb.size, fun i hi _ => hb.block i hi, fun _ h => Or.inl h⟩
theorem Blk.grew {w w' : World} {v v' : Value} {g : Nat} {t : TypeId} {cs : Array Value} (h : Blk w g t cs) (hG : Grew w w' v v') (hne : blkOf v ≠ some g) : Blk w' g t cs := (hG.block g h.lt hne).trans h
theorem OwnI.grew {w w' : World} {v v' u : Value} {xs : List Int} (h : OwnI w 0 u xs) (hG : Grew w w' v v') (ha : Apart u v) : OwnI w' 0 u xs := OwnI.same h fun g hg => hG.block g (ownI_lt h hg) (ha g hg)
theorem lit_int (x : Int) (w : World) : (Instr.buildSlice 40 1 #[(0, .int .i64 x)]).run Tryz.prog w = .ok (.slice (some ⟨w.heap.size, 0, none⟩) 1 1) (w.alloc (.cells #[.int .i64 x] 3)) := by
  go_simp
theorem size_yes {d : ByteArray} {s : Nat} {c : Chest} (hk : lk d S.chests = some c) (hs : c.shut = false) (hc : c.sizes.contains s = false) (hn : c.sizes.length ≠ 5) :
    doP S (.size d s) = (0, S.set d { c with sizes := insAt (pos s c.sizes) s c.sizes, stock := insAt (pos s c.sizes) 0 c.stock }) := by
  simp only [doP, hk, hs, hc, Bool.false_eq_true, if_false]; rw [if_neg hn]
theorem pos_le (s : Nat) (xs : List Nat) : pos s xs ≤ xs.length := by unfold pos; exact List.countP_le_length
set_option maxRecDepth 100000 in
theorem sizing_yes (H : HouseAt w V S) (hS : Oks S) (d : ByteArray) (s : Nat) {c : Chest} (hk : lk d S.chests = some c) (hs : c.shut = false) (hor : openR V S d = .tuple #[V (.chest d), .int .i64 0]) (hcs : c.sizes.contains s = false) (hn5 : c.sizes.length ≠ 5) :
    Calls Tryz.prog 215 #[.agg #[.string d, .int .i64 (s : Int)], V .house] w (DoPost V S w (doP S (.size d s))) := by
  have hco := hS d c hk
  obtain ⟨⟨g, hg, hB⟩, hsz, hst, hou⟩ := H.ch d c hk
  have hdo := size_yes hk hs hcs hn5
  obtain ⟨i, hi⟩ : ∃ i, pos s c.sizes = i := ⟨_, rfl⟩
  have hil : i ≤ c.sizes.length := by rw [← hi]; exact pos_le _ _
  rw [hi] at hdo
  have HOP : Hid (∀ w', Below w.heap.size w w' → Calls Tryz.prog 216 #[V .house, .string d] w' fun e w2 => w2 = w' ∧ e = .returned (.tuple #[.pointer (some ⟨g, 0, none⟩), .int .i64 0])) := fun w' hb => by
    have h := open_any (H.callee hb) d
    rw [hor, hg] at h
    exact h
  have HSE : Hid (∀ w', Below w.heap.size w w' → Calls Tryz.prog 217 #[V (.sizes d), .int .i64 (s : Int)] w' fun e w2 => e = .returned (.tuple #[.int .i64 (i : Int), .bool false]) ∧ ∃ q, w2 = w'.drewN q) := fun w' hb => by
    rw [← hi, ← hcs]
    exact search_any (OwnI.callee hsz hb) (by have := hco.five; omega) hco.srt s
  have HFIN : Hid (∀ f cap w' vs' vk', HouseAt w' (updC V d vs' vk' (V (.outs d))) (S.set d { c with sizes := insAt i s c.sizes, stock := insAt i 0 c.stock }) ∧ Frm (Foot V) w (Foot (updC V d vs' vk' (V (.outs d)))) w' ∧ UndoOk f cap V S w w' →
      DoPost V S w (doP S (.size d s)) (.returned (.tuple #[.func (.func f) #[] cap, .int .i64 0])) w') := fun f cap w' vs' vk' h => by
    rw [hdo]
    exact Or.inr ⟨rfl, f, cap, _, rfl, h.1, updC_house _ _ _ _ _, h.2.1, h.2.2⟩
  have HCH : Hid (∀ w', Below w.heap.size w w' → Calls Tryz.prog 209 #[.pointer (some ⟨g, 0, none⟩)] w' fun e w4 => ∃ g1 g2 ws wk wo, e = .returned (.func (.func 219) #[] #[.pointer (some ⟨g2, 0, none⟩), .pointer (some ⟨g1, 0, none⟩)]) ∧ Kept w' w4 g g1 g2 ws wk wo c) := fun w' hb => by
    have h := ((H.callee hb).ch d c hk)
    rw [hg] at h
    exact change_any (by have := hco.five; omega) (by have := hco.five; have := hco.len; omega) (by have := hco.outl; omega) h
  have HDC := Lib.hid (fun (g3 g4 : Nat) (ws wk wo vs' vk' : Value) (w3 w4 w6 : World) => deed_chest (g3 := g3) (g4 := g4) (ws := ws) (wk := wk) (wo := wo) (vs' := vs') (vk' := vk') (vo' := V (.outs d)) (w3 := w3) (w4 := w4) (w6 := w6) (c' := { c with sizes := insAt i s c.sizes, stock := insAt i 0 c.stock }) H hk hg)
  generalize hPo : DoPost V S w (doP S (.size d s)) = Po at HFIN ⊢
  obtain ⟨gh, hV, _⟩ := H.hs
  rw [hV] at HOP ⊢
  obtain ⟨A, cc, hVs, hcc, hcm, _, hA⟩ := ownN_form hsz
  obtain ⟨B, ck, hVk, hck, hcm2, _, hB2⟩ := ownN_form hst
  obtain ⟨n, hn⟩ : ∃ n, c.sizes.length = n := ⟨_, rfl⟩
  have hnk : c.stock.length = n := by rw [hco.len, hn]
  rw [hn] at hVs hcc
  rw [hnk] at hVk hck
  have hgl := hB.lt
  have e0 : w.cell? ⟨g, 0, none⟩ = some (.slice A n cc) := hB.at_ 0 (congrArg some hVs)
  rw [hVs] at HSE
  unfold maxLen at hcm
  have hq5 : ((n : Int) == 5) = false := by simp; omega
  have HH := Lib.hid H
  have HCO := Lib.hid hco
  have HG := Lib.hid hg
  have HLK := Lib.hid hk
  have HN := Lib.hid hn
  have HNK := Lib.hid hnk
  have HIL := Lib.hid hil
  have HBB := Lib.hid hB
  have HVS := Lib.hid hVs
  have HVK := Lib.hid hVk
  clear hdo hPo hV hg hB hsz hst hou hk hs hor hVs hcc hn hcs hn5 H hS hco hVk hnk hck hcm2 hil hi hA hB2
  go_enter Tryz.func215, Tryz.ntmps215
  go_wp2_with (first
    | (with_reducible show wpList _ _ _ (⟨_, .box 208 _, _, _, _, _⟩ :: _) _ _
       refine wpList_box_cells rfl 208 _ rfl (.agg #[.string d, .int .i64 (s : Int)]) #[.string d, .int .i64 (s : Int)] rfl rfl ?_
       intro w1 g1 hG1 hgr1 hge1
       have hb1 := below_grown hgr1
       have d0 : w1.cell? ⟨g1, 0, none⟩ = some (.string d) := hG1.at_ 0 rfl
       have d1 : w1.cell? ⟨g1, 1, none⟩ = some (.int .i64 (s : Int)) := hG1.at_ 1 rfl
       have d3 : w1.cell? ⟨g, 0, none⟩ = some (.slice A n cc) := (hb1.cell (p := ⟨g, 0, none⟩) hgl).trans e0)
    | (go_at_call 216; (with_reducible refine (HOP.out _ hb1).mono ?_); rintro e w2 ⟨hw2, rfl⟩; obtain rfl : w1 = w2 := hw2.symm))
  have HB1 := Lib.hid hb1
  have HG1 := Lib.hid hG1
  have HGE := Lib.hid hge1
  clear hb1 hgr1 e0 hG1 hge1
  go_quiet ((go_at_call 217; exact Calls.quiet_of (HSE.out _ (below_drewN HB1.out _))))
  go_wp2_with (first
    | (go_at_call 209; (with_reducible refine (HCH.out _ (below_drewN HB1.out _)).mono ?_)
       rintro e w4 ⟨g3, g4, ws, wk, wo, rfl, hK⟩))
  have HK := Lib.hid hK
  have HB3 : Hid (Below w.heap.size w (w1.drewN nq)) := below_drewN HB1.out _
  have HB4 : Hid (Below w.heap.size w w4) := HB3.out.trans (hK.be.mono HB3.out.size)
  have HG14 : Hid (Blk w4 g1 208 #[.string d, .int .i64 (s : Int)]) := Blk.callee (w := w1.drewN nq) HG1.out hK.be
  have HG4 : Hid (Blk w4 g 103 (chestV (V (.sizes d)) (V (.stock d)) (V (.outs d)) c)) := HBB.out.callee HB4.out
  have HO4 : Hid (OwnN w4 (V (.sizes d)) c.sizes) := OwnI.callee (HH.out.ch d c HLK.out).sizes HB4.out
  have HT4 : Hid (OwnN w4 (V (.stock d)) c.stock) := OwnI.callee (HH.out.ch d c HLK.out).stock HB4.out
  have bg : blkOf (V (.chest d)) = some g := by rw [HG.out]; rfl
  have HBG := Lib.hid bg
  have n1g : g1 ≠ g := fun e => by have := HGE.out; omega
  -- what the region reads stands as long as it may be read
  have KF : Hid (∀ w' v', Grew w4 w' (V (.sizes d)) v' → w'.cell? ⟨g, 0, none⟩ = some (V (.sizes d)) ∧ w'.cell? ⟨g, 1, none⟩ = some (V (.stock d)) ∧ w'.cell? ⟨g1, 1, none⟩ = some (.int .i64 (s : Int))) := fun w' v' hGr => by
    have h1 := Blk.grew HG4.out hGr (fun e => HH.out.ne_ e bg (by simp) rfl)
    have h2 := Blk.grew HG14.out hGr (fun e => by have := HH.out.lt ⟨_, e⟩; have := HGE.out; omega)
    exact ⟨h1.at_ 0 rfl, h1.at_ 1 rfl, h2.at_ 1 rfl⟩
  have hgr0 : Grew w4 w4.drew (V (.sizes d)) (V (.sizes d)) := .of_below (Below.refl _ _).drew _
  have hb0 : Below w4.heap.size w4 w4.drew := (Below.refl _ _).drew
  have HSN : Hid (∀ k, w4.heap.size ≤ k → blkOf (V (.sizes d)) ≠ some k) := fun k hk e => by have := (HH.out.callee HB4.out).lt ⟨_, e⟩; omega
  have HKN : Hid (∀ k, w4.heap.size ≤ k → blkOf (V (.stock d)) ≠ some k) := fun k hk e => by have := (HH.out.callee HB4.out).lt ⟨_, e⟩; omega
  clear hK d0 d1 d3 HB1 HG1 bg
  refine De.region_tree (fun b w' => bif b then (True) else (w'.cell? ⟨g, 0, none⟩ = some (V (.sizes d)) ∧ w'.cell? ⟨g, 1, none⟩ = some (V (.stock d)) ∧ w'.cell? ⟨g1, 1, none⟩ = some (.int .i64 (s : Int)))) 20 6 (by kernel_rfl) (by kernel_rfl) (by decide) (KF.out _ _ hgr0) ?_
  (try simp only [Act.put, De.l0, De.l1, De.l2])
  refine De.MidT.read (o := ?o1) (v := ?v1) 0 (by decide) ?q1 (by kernel_rfl) (by kernel_rfl) ?w1 (by kernel_rfl) ?y1 ?h1
  case q1 => (simp only [De.g0, De.g1, De.g2]; rfl)
  case w1 => kernel_rfl
  case y1 => (intro w' hw'; obtain ⟨x1, x2, x3⟩ := hw'; go_simp; (try with_reducible rfl))
  (try simp only [Act.put, De.l0, De.l1, De.l2])
  refine De.MidT.read2 (o := ?o2) (v := ?v2) 1 (by decide) ?q2 (by kernel_rfl) (by kernel_rfl) ?w2 ?y2 ?h2
  case q2 => (simp only [De.g0, De.g1, De.g2]; rfl)
  case w2 => kernel_rfl
  case y2 => (intro b w' hw'; clear hw'; go_simp; (try with_reducible rfl))
  (try simp only [Act.put, De.l0, De.l1, De.l2])
  refine De.MidT.read (o := ?o3) (v := ?v3) 2 (by decide) ?q3 (by kernel_rfl) (by kernel_rfl) ?w3 (by kernel_rfl) ?y3 ?h3
  case q3 => (simp only [De.g0, De.g1, De.g2]; rfl)
  case w3 => kernel_rfl
  case y3 => (intro w' hw'; obtain ⟨x1, x2, x3⟩ := hw'; go_simp; (try with_reducible rfl))
  (try simp only [Act.put, De.l0, De.l1, De.l2])
  refine De.MidT.read (o := ?o4) (v := ?v4) 3 (by decide) ?q4 (by kernel_rfl) (by kernel_rfl) ?w4 (by kernel_rfl) ?y4 ?h4
  case q4 => (simp only [De.g0, De.g1, De.g2]; rfl)
  case w4 => kernel_rfl
  case y4 => (intro w' hw'; obtain ⟨x1, x2, x3⟩ := hw'; go_simp; (try with_reducible rfl))
  (try simp only [Act.put, De.l0, De.l1, De.l2])
  refine De.MidT.read (o := ?o5) (v := ?v5) 4 (by decide) ?q5 (by kernel_rfl) (by kernel_rfl) ?w5 (by kernel_rfl) ?y5 ?h5
  case q5 => (simp only [De.g0, De.g1, De.g2]; rfl)
  case w5 => kernel_rfl
  case y5 => (intro w' hw'; obtain ⟨x1, x2, x3⟩ := hw'; go_simp; (try with_reducible rfl))
  (try simp only [Act.put, De.l0, De.l1, De.l2])
  refine De.MidT.read (o := ?o6) (v := ?v6) 5 (by decide) ?q6 (by kernel_rfl) (by kernel_rfl) ?w6 (by kernel_rfl) ?y6 ?h6
  case q6 => (simp only [De.g0, De.g1, De.g2]; rfl)
  case w6 => kernel_rfl
  case y6 => (intro w' hw'; obtain ⟨x1, x2, x3⟩ := hw'; go_simp; (try with_reducible rfl))
  (try simp only [Act.put, De.l0, De.l1, De.l2])
  refine De.MidT.read (o := ?o7) (v := ?v7) 6 (by decide) ?q7 (by kernel_rfl) (by kernel_rfl) ?w7 (by kernel_rfl) ?y7 ?h7
  case q7 => (simp only [De.g0, De.g1, De.g2]; rfl)
  case w7 => kernel_rfl
  case y7 => (intro w' hw'; obtain ⟨x1, x2, x3⟩ := hw'; go_simp; (try with_reducible rfl))
  (try simp only [Act.put, De.l0, De.l1, De.l2])
  refine De.MidT.read (o := ?o8) (v := ?v8) 7 (by decide) ?q8 (by kernel_rfl) (by kernel_rfl) ?w8 (by kernel_rfl) ?y8 ?h8
  case q8 => (simp only [De.g0, De.g1, De.g2]; rfl)
  case w8 => kernel_rfl
  case y8 => (intro w' hw'; obtain ⟨x1, x2, x3⟩ := hw'; go_simp; (try with_reducible rfl))
  (try simp only [Act.put, De.l0, De.l1, De.l2])
  refine De.MidT.read (o := ?o9) (v := ?v9) 8 (by decide) ?q9 (by kernel_rfl) (by kernel_rfl) ?w9 (by kernel_rfl) ?y9 ?h9
  case q9 => (simp only [De.g0, De.g1, De.g2]; rfl)
  case w9 => kernel_rfl
  case y9 => (intro w' hw'; obtain ⟨x1, x2, x3⟩ := hw'; go_simp; (try with_reducible rfl))
  (try simp only [Act.put, De.l0, De.l1, De.l2])
  refine De.MidT.read (o := ?o10) (v := ?v10) 11 (by decide) ?q10 (by kernel_rfl) (by kernel_rfl) ?w10 (by kernel_rfl) ?y10 ?h10
  case q10 => (simp only [De.g0, De.g1, De.g2]; rfl)
  case w10 => kernel_rfl
  case y10 => (intro w' hw'; obtain ⟨x1, x2, x3⟩ := hw'; go_simp; (try with_reducible rfl))
  (try simp only [Act.put, De.l0, De.l1, De.l2])
  refine De.MidT.read (o := ?o11) (v := ?v11) 12 (by decide) ?q11 (by kernel_rfl) (by kernel_rfl) ?w11 (by kernel_rfl) ?y11 ?h11
  case q11 => (simp only [De.g0, De.g1, De.g2]; rfl)
  case w11 => kernel_rfl
  case y11 => (intro w' hw'; obtain ⟨x1, x2, x3⟩ := hw'; go_simp; (try with_reducible rfl))
  (try simp only [Act.put, De.l0, De.l1, De.l2])
  refine De.MidT.read (o := ?o12) (v := ?v12) 13 (by decide) ?q12 (by kernel_rfl) (by kernel_rfl) ?w12 (by kernel_rfl) ?y12 ?h12
  case q12 => (simp only [De.g0, De.g1, De.g2]; rfl)
  case w12 => kernel_rfl
  case y12 => (intro w' hw'; obtain ⟨x1, x2, x3⟩ := hw'; go_simp; (try with_reducible rfl))
  (try simp only [Act.put, De.l0, De.l1, De.l2])
  refine De.MidT.read (o := ?o13) (v := ?v13) 14 (by decide) ?q13 (by kernel_rfl) (by kernel_rfl) ?w13 (by kernel_rfl) ?y13 ?h13
  case q13 => (simp only [De.g0, De.g1, De.g2]; rfl)
  case w13 => kernel_rfl
  case y13 => (intro w' hw'; obtain ⟨x1, x2, x3⟩ := hw'; go_simp; (try with_reducible rfl))
  (try simp only [Act.put, De.l0, De.l1, De.l2])
  refine De.MidT.read (o := ?o14) (v := ?v14) 15 (by decide) ?q14 (by kernel_rfl) (by kernel_rfl) ?w14 (by kernel_rfl) ?y14 ?h14
  case q14 => (simp only [De.g0, De.g1, De.g2]; rfl)
  case w14 => kernel_rfl
  case y14 => (intro w' hw'; obtain ⟨x1, x2, x3⟩ := hw'; go_simp; (try with_reducible rfl))
  (try simp only [Act.put, De.l0, De.l1, De.l2])
  (try refine De.MidT.tail ?_)
  refine De.Tr.two (i := 9) (j := 16) (o := ?o16) (p := ?o15) (by kernel_rfl) ?q16 ?g16 ?q15 ?g15 ?h16 ?h15
  case q16 => (simp only [De.g0, De.g1, De.g2]; rfl)
  case g16 => rfl
  case q15 => (simp only [De.g0, De.g1, De.g2]; rfl)
  case g15 => rfl
  · refine wp_lit1 40 3 _ (.int .i64 (s : Int)) rfl rfl (lit_int (s : Int)) ?_
    intro w5 g5 hL_g5 hgr_g5 hge_g5
    have hG_w5 := hgr0.trans (.of_below (below_grown hgr_g5) _)
    have hB_w5 := hb0.trans ((below_grown hgr_g5).mono hb0.size)
    refine ⟨⟨_, rfl⟩, KF.out _ _ hG_w5, ?_⟩
    (try simp only [Act.put, De.l0, De.l1, De.l2])
    (try refine De.MidT.tail ?_)
    refine De.Tr.two (i := 10) (j := 16) (o := ?o18) (p := ?o17) (by kernel_rfl) ?q18 ?g18 ?q17 ?g17 ?h18 ?h17
    case q18 => (simp only [De.g0, De.g1, De.g2]; rfl)
    case g18 => rfl
    case q17 => (simp only [De.g0, De.g1, De.g2]; rfl)
    case g17 => rfl
    · refine wp_enterK 218 #[V (.sizes d), .int .i64 (i : Int), .slice (some ⟨g5, 0, none⟩) 1 1] (by go_simp) (insert_any (OwnI.callee HO4.out hB_w5) (by have := HCO.out.five; omega) i s HIL.out hL_g5 (HSN.out _ hge_g5)) ?_
      rintro e w6 ⟨v6, rfl, hO6, hGi⟩
      have hG_w6 := hG_w5.trans hGi
      refine ⟨v6, rfl, ⟨_, rfl⟩, KF.out _ _ hG_w6, ?_⟩
      (try simp only [Act.put, De.l0, De.l1, De.l2])
      (try refine De.MidT.tail ?_)
      refine De.Tr.one (i := 16) (o := ?o19) (by kernel_rfl) ?q19 ?g19 ?h19
      case q19 => (simp only [De.g0, De.g1, De.g2]; rfl)
      case g19 => rfl
      refine wp_lit1 40 3 _ (.int .i64 0) rfl rfl (lit_int 0) ?_
      intro w7 g16 hL_g16 hgr_g16 hge_g16
      have hG_w7 := hG_w6.trans (.of_below (below_grown hgr_g16) _)
      refine ⟨⟨_, rfl⟩, KF.out _ _ hG_w7, ?_⟩
      have hO67 : OwnN w7 v6 (insAt i s c.sizes) := OwnI.callee hO6 (below_grown hgr_g16)
      have hge16 : w4.heap.size ≤ g16 := Nat.le_trans hG_w6.size (by omega)
      have hL7 := hL_g16
      have hst7 : OwnN w7 (V (.stock d)) c.stock := OwnI.grew HT4.out hG_w7 (HH.out.apart (by simp))
      have hch7 := Blk.grew HG4.out hG_w7 (fun e => HH.out.ne_ e HBG.out (by simp) rfl)
      have h16 : w4.heap.size ≤ g16 := hge16
      (try simp only [Act.put, De.l0, De.l1, De.l2])
      (try refine De.MidT.tail ?_)
      refine De.Tr.one (i := 17) (o := ?o20) (by kernel_rfl) ?q20 ?g20 ?h20
      case q20 => (simp only [De.g0, De.g1, De.g2]; rfl)
      case g20 => rfl
      refine wp_enterK 218 #[V (.stock d), .int .i64 (i : Int), .slice (some ⟨g16, 0, none⟩) 1 1] (by go_simp) (insert_any hst7 (by have := HCO.out.five; have := HCO.out.len; omega) i 0 (by rw [HNK.out, ← HN.out]; exact HIL.out) hL7 (HKN.out _ h16)) ?_
      rintro e w8 ⟨v8, rfl, hO8, hGk⟩
      have hz7 := hG_w7.size
      have hch8 := Blk.grew hch7 hGk (fun e => HH.out.ne_ e HBG.out (by simp) rfl)
      have hb18 : Blk w8 g1 208 #[.string d, .int .i64 (s : Int)] := Blk.grew (Blk.grew HG14.out hG_w7 (fun e => by have := HH.out.lt ⟨_, e⟩; have := HGE.out; omega)) hGk (fun e => by have := HH.out.lt ⟨_, e⟩; have := HGE.out; omega)
      have hx68 : Apart v6 (V (.stock d)) := fun k h1 h2 => by
        rcases hG_w7.new k h1 with h | h
        · exact HH.out.ne_ h h2 (by simp) rfl
        · exact HKN.out k h h2
      have hO68 : OwnN w8 v6 (insAt i s c.sizes) := OwnI.grew hO67 hGk hx68
      have a68 : Apart v6 v8 := fun k h1 h2 => by
        rcases hGk.new k h2 with h | h
        · exact hx68 k h1 h
        · have := ownI_lt hO67 h1
          omega
      have K8 : Hid (w8.cell? ⟨g, 0, none⟩ = some (V (.sizes d)) ∧ w8.cell? ⟨g, 1, none⟩ = some (V (.stock d)) ∧ w8.cell? ⟨g1, 1, none⟩ = some (.int .i64 (s : Int))) := ⟨hch8.at_ 0 rfl, hch8.at_ 1 rfl, hb18.at_ 1 rfl⟩
      refine ⟨v8, rfl, ⟨_, rfl⟩, K8.out, ?_⟩
      (try simp only [Act.put, De.l0, De.l1, De.l2])
      refine De.MidT.read (o := ?o21) (v := ?v21) 18 (by decide) ?q21 (by kernel_rfl) (by kernel_rfl) ?w21 (by kernel_rfl) ?y21 ?h21
      case q21 => (simp only [De.g0, De.g1, De.g2]; rfl)
      case w21 => kernel_rfl
      case y21 => (intro w' hw'; obtain ⟨x1, x2, x3⟩ := hw'; go_simp; (try with_reducible rfl))
      (try simp only [Act.put, De.l0, De.l1, De.l2])
      refine De.MidT.read (o := ?o22) (v := ?v22) 19 (by decide) ?q22 (by kernel_rfl) (by kernel_rfl) ?w22 (by kernel_rfl) ?y22 ?h22
      case q22 => (simp only [De.g0, De.g1, De.g2]; rfl)
      case w22 => kernel_rfl
      case y22 => (intro w' hw'; obtain ⟨x1, x2, x3⟩ := hw'; go_simp; (try with_reducible rfl))
      (try simp only [Act.put, De.l0, De.l1, De.l2])
      obtain ⟨A6, c6, e6, _⟩ := ownN_form hO68
      obtain ⟨A8, c8, e8, _⟩ := ownN_form hO8
      have HE6 := Lib.hid e6
      have HE8 := Lib.hid e8
      have NE6 : Hid (∀ k, blkOf v6 = some k → k ≠ g) := fun k h1 e => by
        rcases hG_w7.new k h1 with h | h
        · exact HH.out.ne_ h HBG.out (by simp) e
        · have := (HH.out.callee HB4.out).lt ⟨_, HBG.out⟩
          omega
      have NE8 : Hid (∀ k, blkOf v8 = some k → k ≠ g) := fun k h1 e => by
        rcases hGk.new k h1 with h | h
        · exact HH.out.ne_ h HBG.out (by simp) e
        · have := (HH.out.callee HB4.out).lt ⟨_, HBG.out⟩
          omega
      have c80 : w8.cell? ⟨g, 0, none⟩ = some (V (.sizes d)) := K8.out.1
      have f80 := hch8.frozen 0
      rw [e6, e8]
      (try simp only [Act.put, De.l0, De.l1, De.l2])
      (try refine De.MidT.tail ?_)
      refine De.Tr.one (i := 20) (o := ?o23) (by kernel_rfl) ?q23 ?g23 ?h23
      case q23 => (simp only [De.g0, De.g1, De.g2]; rfl)
      case g23 => rfl
      refine wp_setcell 40 _ _ rfl g 0 (.slice A6 (insAt i s c.sizes).length c6) rfl rfl (by go_simp) ?_
      obtain ⟨w9, hw9⟩ : ∃ y, y = w8.setCell ⟨g, 0, none⟩ (.slice A6 (insAt i s c.sizes).length c6) := ⟨_, rfl⟩
      rw [← hw9]
      have hch9 : Blk w9 g 103 (chestV v6 (V (.stock d)) (V (.outs d)) c) := by rw [hw9, HE6.out]; exact hch8.set_ 0 _
      have st9 : ∀ j, j ≠ g → w9.heap[j]? = w8.heap[j]? := fun j hj => by rw [hw9]; exact Below.heap_setCell w8 ⟨g, 0, none⟩ _ j hj
      have hx9 : w9.os = w8.os ∧ w9.tape = w8.tape ∧ w9.output = w8.output ∧ w9.heap.size = w8.heap.size := by rw [hw9]; exact ⟨rfl, rfl, rfl, by simp⟩
      clear hw9 c80 f80
      refine ⟨⟨_, rfl⟩, trivial, ?_⟩
      (try simp only [Act.put, De.l0, De.l1, De.l2])
      refine De.MidT.read2 (o := ?o24) (v := ?v24) 21 (by decide) ?q24 (by kernel_rfl) (by kernel_rfl) ?w24 ?y24 ?h24
      case q24 => (simp only [De.g0, De.g1, De.g2]; rfl)
      case w24 => kernel_rfl
      case y24 => (intro b w' hw'; clear hw'; go_simp; (try with_reducible rfl))
      (try simp only [Act.put, De.l0, De.l1, De.l2])
      refine De.MidT.read2 (o := ?o25) (v := ?v25) 22 (by decide) ?q25 (by kernel_rfl) (by kernel_rfl) ?w25 ?y25 ?h25
      case q25 => (simp only [De.g0, De.g1, De.g2]; rfl)
      case w25 => kernel_rfl
      case y25 => (intro b w' hw'; clear hw'; go_simp; (try with_reducible rfl))
      (try simp only [Act.put, De.l0, De.l1, De.l2])
      have c91 : w9.cell? ⟨g, 1, none⟩ = some (V (.stock d)) := hch9.at_ 1 rfl
      have f91 := hch9.frozen 1
      (try simp only [Act.put, De.l0, De.l1, De.l2])
      (try refine De.MidT.tail ?_)
      refine De.Tr.one (i := 23) (o := ?o26) (by kernel_rfl) ?q26 ?g26 ?h26
      case q26 => (simp only [De.g0, De.g1, De.g2]; rfl)
      case g26 => rfl
      refine wp_setcell 40 _ _ rfl g 1 (.slice A8 (insAt i 0 c.stock).length c8) rfl rfl (by go_simp) ?_
      obtain ⟨w10, hw10⟩ : ∃ y, y = w9.setCell ⟨g, 1, none⟩ (.slice A8 (insAt i 0 c.stock).length c8) := ⟨_, rfl⟩
      rw [← hw10]
      have hch10 : Blk w10 g 103 (chestV v6 v8 (V (.outs d)) c) := by rw [hw10, HE8.out]; exact hch9.set_ 1 _
      have st10 : ∀ j, j ≠ g → w10.heap[j]? = w8.heap[j]? := fun j hj => by rw [hw10]; exact (Below.heap_setCell w9 ⟨g, 1, none⟩ _ j hj).trans (st9 j hj)
      have hx10 : w10.os = w8.os ∧ w10.tape = w8.tape ∧ w10.output = w8.output ∧ w10.heap.size = w8.heap.size := by rw [hw10]; exact ⟨hx9.1, hx9.2.1, hx9.2.2.1, by simpa using hx9.2.2.2⟩
      clear hw10 c91 f91
      refine ⟨⟨_, rfl⟩, trivial, ?_⟩
      (try refine De.MidT.tail ?_)
      refine De.Tr.done (by kernel_rfl) ?_
      (try simp only [Act.put, De.l0, De.l1, De.l2])
      have HC10 := Lib.hid hch10
      have HS10 := Lib.hid st10
      have HX10 := Lib.hid hx10
      have HO6 := Lib.hid hO68
      have HO8 := Lib.hid hO8
      have HG7 := Lib.hid hG_w7
      have HGK := Lib.hid hGk
      have HA := Lib.hid a68
      clear hch8 hch9 st9 hx9 hch10 st10 hx10 hO68 hO8 hG_w7 hGk a68 hst7 hch7 hb18 hx68 hO67
      go_wp2_with (fail)
      have H := HH.out
      have hl4 : ∀ k, blkOf (V (.outs d)) = some k → k < w4.heap.size := fun k h => (H.callee HB4.out).lt ⟨_, h⟩
      have z7 := HG7.out.size
      have z8 := HGK.out.size
      refine HFIN.out _ _ _ v6 v8 (HDC.out g3 g4 ws wk wo v6 v8 _ w4 w10 HB3.out HK.out ⟨HX10.out.1.trans (HGK.out.os.trans HG7.out.os), HX10.out.2.1.trans (HGK.out.tape.trans HG7.out.tape), HX10.out.2.2.1.trans (HGK.out.output.trans HG7.out.output), by rw [HX10.out.2.2.2]; exact Nat.le_trans z7 z8⟩
        (fun j hj h1 h2 h3 h4 => (HS10.out j h1).trans ((HGK.out.block j (Nat.lt_of_lt_of_le hj z7) h3).trans (HG7.out.block j hj h2))) ⟨⟨g, HG.out, HC10.out⟩, ?_, ?_, ?_⟩ HG7.out.new (fun k hk => (HGK.out.new k hk).imp id (fun h => by omega)) (.self _ _ _) HA.out (fun k h1 h2 => ?_) (fun k h1 h2 => ?_))
      · exact OwnI.same HO6.out fun k hk => HS10.out k (NE6.out k hk)
      · exact OwnI.same HO8.out fun k hk => HS10.out k (NE8.out k hk)
      · exact OwnS.same (OwnS.callee (H.ch d c HLK.out).out HB4.out) fun k hk => (HS10.out k (H.ne_ hk HBG.out (by simp))).trans ((HGK.out.block k (Nat.lt_of_lt_of_le (hl4 k hk) z7) (fun e => H.ne_ hk e (by simp) rfl)).trans (HG7.out.block k (hl4 k hk) (fun e => H.ne_ hk e (by simp) rfl)))
      · rcases HG7.out.new k h1 with h | h
        · exact H.ne_ h h2 (by simp) rfl
        · have := hl4 k h2
          omega
      · rcases HGK.out.new k h1 with h | h
        · exact H.ne_ h h2 (by simp) rfl
        · have := hl4 k h2
          omega
    · refine wp_lit1 40 3 _ (.int .i64 0) rfl rfl (lit_int 0) ?_
      intro w6 g16 hL_g16 hgr_g16 hge_g16
      have hG_w6 := hG_w5.trans (.of_below (below_grown hgr_g16) _)
      have hB_w6 := hB_w5.trans ((below_grown hgr_g16).mono hB_w5.size)
      refine ⟨⟨_, rfl⟩, KF.out _ _ hG_w6, ?_⟩
      have hL5 := Blk.callee hL_g5 (below_grown hgr_g16)
      have hL0 := hL_g16
      have hge5 : w4.heap.size ≤ g5 := by have := hG_w5.size; have := hB_w5.size; have : w4.drew.heap.size = w4.heap.size := rfl; omega
      have hge16 : w4.heap.size ≤ g16 := by have := hG_w5.size; have := hB_w5.size; have : w4.drew.heap.size = w4.heap.size := rfl; omega
      (try simp only [Act.put, De.l0, De.l1, De.l2])
      (try refine De.MidT.tail ?_)
      refine De.Tr.one (i := 10) (o := ?o27) (by kernel_rfl) ?q27 ?g27 ?h27
      case q27 => (simp only [De.g0, De.g1, De.g2]; rfl)
      case g27 => rfl
      refine wp_enterK 218 #[V (.sizes d), .int .i64 (i : Int), .slice (some ⟨g5, 0, none⟩) 1 1] (by go_simp) (insert_any (OwnI.callee HO4.out hB_w6) (by have := HCO.out.five; omega) i s HIL.out hL5 (HSN.out _ hge5)) ?_
      rintro e w7 ⟨v6, rfl, hO6, hGi⟩
      have hG_w7 := hG_w6.trans hGi
      refine ⟨v6, rfl, ⟨_, rfl⟩, KF.out _ _ hG_w7, ?_⟩
      have hO67 := hO6
      have hL7 := Blk.grew hL0 hGi (HSN.out _ hge16)
      have hst7 : OwnN w7 (V (.stock d)) c.stock := OwnI.grew HT4.out hG_w7 (HH.out.apart (by simp))
      have hch7 := Blk.grew HG4.out hG_w7 (fun e => HH.out.ne_ e HBG.out (by simp) rfl)
      have h16 : w4.heap.size ≤ g16 := hge16
      (try simp only [Act.put, De.l0, De.l1, De.l2])
      (try refine De.MidT.tail ?_)
      refine De.Tr.one (i := 17) (o := ?o28) (by kernel_rfl) ?q28 ?g28 ?h28
      case q28 => (simp only [De.g0, De.g1, De.g2]; rfl)
      case g28 => rfl
      refine wp_enterK 218 #[V (.stock d), .int .i64 (i : Int), .slice (some ⟨g16, 0, none⟩) 1 1] (by go_simp) (insert_any hst7 (by have := HCO.out.five; have := HCO.out.len; omega) i 0 (by rw [HNK.out, ← HN.out]; exact HIL.out) hL7 (HKN.out _ h16)) ?_
      rintro e w8 ⟨v8, rfl, hO8, hGk⟩
      have hz7 := hG_w7.size
      have hch8 := Blk.grew hch7 hGk (fun e => HH.out.ne_ e HBG.out (by simp) rfl)
      have hb18 : Blk w8 g1 208 #[.string d, .int .i64 (s : Int)] := Blk.grew (Blk.grew HG14.out hG_w7 (fun e => by have := HH.out.lt ⟨_, e⟩; have := HGE.out; omega)) hGk (fun e => by have := HH.out.lt ⟨_, e⟩; have := HGE.out; omega)
      have hx68 : Apart v6 (V (.stock d)) := fun k h1 h2 => by
        rcases hG_w7.new k h1 with h | h
        · exact HH.out.ne_ h h2 (by simp) rfl
        · exact HKN.out k h h2
      have hO68 : OwnN w8 v6 (insAt i s c.sizes) := OwnI.grew hO67 hGk hx68
      have a68 : Apart v6 v8 := fun k h1 h2 => by
        rcases hGk.new k h2 with h | h
        · exact hx68 k h1 h
        · have := ownI_lt hO67 h1
          omega
      have K8 : Hid (w8.cell? ⟨g, 0, none⟩ = some (V (.sizes d)) ∧ w8.cell? ⟨g, 1, none⟩ = some (V (.stock d)) ∧ w8.cell? ⟨g1, 1, none⟩ = some (.int .i64 (s : Int))) := ⟨hch8.at_ 0 rfl, hch8.at_ 1 rfl, hb18.at_ 1 rfl⟩
      refine ⟨v8, rfl, ⟨_, rfl⟩, K8.out, ?_⟩
      (try simp only [Act.put, De.l0, De.l1, De.l2])
      refine De.MidT.read (o := ?o29) (v := ?v29) 18 (by decide) ?q29 (by kernel_rfl) (by kernel_rfl) ?w29 (by kernel_rfl) ?y29 ?h29
      case q29 => (simp only [De.g0, De.g1, De.g2]; rfl)
      case w29 => kernel_rfl
      case y29 => (intro w' hw'; obtain ⟨x1, x2, x3⟩ := hw'; go_simp; (try with_reducible rfl))
      (try simp only [Act.put, De.l0, De.l1, De.l2])
      refine De.MidT.read (o := ?o30) (v := ?v30) 19 (by decide) ?q30 (by kernel_rfl) (by kernel_rfl) ?w30 (by kernel_rfl) ?y30 ?h30
      case q30 => (simp only [De.g0, De.g1, De.g2]; rfl)
      case w30 => kernel_rfl
      case y30 => (intro w' hw'; obtain ⟨x1, x2, x3⟩ := hw'; go_simp; (try with_reducible rfl))
      (try simp only [Act.put, De.l0, De.l1, De.l2])
      obtain ⟨A6, c6, e6, _⟩ := ownN_form hO68
      obtain ⟨A8, c8, e8, _⟩ := ownN_form hO8
      have HE6 := Lib.hid e6
      have HE8 := Lib.hid e8
      have NE6 : Hid (∀ k, blkOf v6 = some k → k ≠ g) := fun k h1 e => by
        rcases hG_w7.new k h1 with h | h
        · exact HH.out.ne_ h HBG.out (by simp) e
        · have := (HH.out.callee HB4.out).lt ⟨_, HBG.out⟩
          omega
      have NE8 : Hid (∀ k, blkOf v8 = some k → k ≠ g) := fun k h1 e => by
        rcases hGk.new k h1 with h | h
        · exact HH.out.ne_ h HBG.out (by simp) e
        · have := (HH.out.callee HB4.out).lt ⟨_, HBG.out⟩
          omega
      have c80 : w8.cell? ⟨g, 0, none⟩ = some (V (.sizes d)) := K8.out.1
      have f80 := hch8.frozen 0
      rw [e6, e8]
      (try simp only [Act.put, De.l0, De.l1, De.l2])
      (try refine De.MidT.tail ?_)
      refine De.Tr.one (i := 20) (o := ?o31) (by kernel_rfl) ?q31 ?g31 ?h31
      case q31 => (simp only [De.g0, De.g1, De.g2]; rfl)
      case g31 => rfl
      refine wp_setcell 40 _ _ rfl g 0 (.slice A6 (insAt i s c.sizes).length c6) rfl rfl (by go_simp) ?_
      obtain ⟨w9, hw9⟩ : ∃ y, y = w8.setCell ⟨g, 0, none⟩ (.slice A6 (insAt i s c.sizes).length c6) := ⟨_, rfl⟩
      rw [← hw9]
      have hch9 : Blk w9 g 103 (chestV v6 (V (.stock d)) (V (.outs d)) c) := by rw [hw9, HE6.out]; exact hch8.set_ 0 _
      have st9 : ∀ j, j ≠ g → w9.heap[j]? = w8.heap[j]? := fun j hj => by rw [hw9]; exact Below.heap_setCell w8 ⟨g, 0, none⟩ _ j hj
      have hx9 : w9.os = w8.os ∧ w9.tape = w8.tape ∧ w9.output = w8.output ∧ w9.heap.size = w8.heap.size := by rw [hw9]; exact ⟨rfl, rfl, rfl, by simp⟩
      clear hw9 c80 f80
      refine ⟨⟨_, rfl⟩, trivial, ?_⟩
      (try simp only [Act.put, De.l0, De.l1, De.l2])
      refine De.MidT.read2 (o := ?o32) (v := ?v32) 21 (by decide) ?q32 (by kernel_rfl) (by kernel_rfl) ?w32 ?y32 ?h32
      case q32 => (simp only [De.g0, De.g1, De.g2]; rfl)
      case w32 => kernel_rfl
      case y32 => (intro b w' hw'; clear hw'; go_simp; (try with_reducible rfl))
      (try simp only [Act.put, De.l0, De.l1, De.l2])
      refine De.MidT.read2 (o := ?o33) (v := ?v33) 22 (by decide) ?q33 (by kernel_rfl) (by kernel_rfl) ?w33 ?y33 ?h33
      case q33 => (simp only [De.g0, De.g1, De.g2]; rfl)
      case w33 => kernel_rfl
      case y33 => (intro b w' hw'; clear hw'; go_simp; (try with_reducible rfl))
      (try simp only [Act.put, De.l0, De.l1, De.l2])
      have c91 : w9.cell? ⟨g, 1, none⟩ = some (V (.stock d)) := hch9.at_ 1 rfl
      have f91 := hch9.frozen 1
      (try simp only [Act.put, De.l0, De.l1, De.l2])
      (try refine De.MidT.tail ?_)
      refine De.Tr.one (i := 23) (o := ?o34) (by kernel_rfl) ?q34 ?g34 ?h34
      case q34 => (simp only [De.g0, De.g1, De.g2]; rfl)
      case g34 => rfl
      refine wp_setcell 40 _ _ rfl g 1 (.slice A8 (insAt i 0 c.stock).length c8) rfl rfl (by go_simp) ?_
      obtain ⟨w10, hw10⟩ : ∃ y, y = w9.setCell ⟨g, 1, none⟩ (.slice A8 (insAt i 0 c.stock).length c8) := ⟨_, rfl⟩
      rw [← hw10]
      have hch10 : Blk w10 g 103 (chestV v6 v8 (V (.outs d)) c) := by rw [hw10, HE8.out]; exact hch9.set_ 1 _
      have st10 : ∀ j, j ≠ g → w10.heap[j]? = w8.heap[j]? := fun j hj => by rw [hw10]; exact (Below.heap_setCell w9 ⟨g, 1, none⟩ _ j hj).trans (st9 j hj)
      have hx10 : w10.os = w8.os ∧ w10.tape = w8.tape ∧ w10.output = w8.output ∧ w10.heap.size = w8.heap.size := by rw [hw10]; exact ⟨hx9.1, hx9.2.1, hx9.2.2.1, by simpa using hx9.2.2.2⟩
      clear hw10 c91 f91
      refine ⟨⟨_, rfl⟩, trivial, ?_⟩
      (try refine De.MidT.tail ?_)
      refine De.Tr.done (by kernel_rfl) ?_
      (try simp only [Act.put, De.l0, De.l1, De.l2])
      have HC10 := Lib.hid hch10
      have HS10 := Lib.hid st10
      have HX10 := Lib.hid hx10
      have HO6 := Lib.hid hO68
      have HO8 := Lib.hid hO8
      have HG7 := Lib.hid hG_w7
      have HGK := Lib.hid hGk
      have HA := Lib.hid a68
      clear hch8 hch9 st9 hx9 hch10 st10 hx10 hO68 hO8 hG_w7 hGk a68 hst7 hch7 hb18 hx68 hO67
      go_wp2_with (fail)
      have H := HH.out
      have hl4 : ∀ k, blkOf (V (.outs d)) = some k → k < w4.heap.size := fun k h => (H.callee HB4.out).lt ⟨_, h⟩
      have z7 := HG7.out.size
      have z8 := HGK.out.size
      refine HFIN.out _ _ _ v6 v8 (HDC.out g3 g4 ws wk wo v6 v8 _ w4 w10 HB3.out HK.out ⟨HX10.out.1.trans (HGK.out.os.trans HG7.out.os), HX10.out.2.1.trans (HGK.out.tape.trans HG7.out.tape), HX10.out.2.2.1.trans (HGK.out.output.trans HG7.out.output), by rw [HX10.out.2.2.2]; exact Nat.le_trans z7 z8⟩
        (fun j hj h1 h2 h3 h4 => (HS10.out j h1).trans ((HGK.out.block j (Nat.lt_of_lt_of_le hj z7) h3).trans (HG7.out.block j hj h2))) ⟨⟨g, HG.out, HC10.out⟩, ?_, ?_, ?_⟩ HG7.out.new (fun k hk => (HGK.out.new k hk).imp id (fun h => by omega)) (.self _ _ _) HA.out (fun k h1 h2 => ?_) (fun k h1 h2 => ?_))
      · exact OwnI.same HO6.out fun k hk => HS10.out k (NE6.out k hk)
      · exact OwnI.same HO8.out fun k hk => HS10.out k (NE8.out k hk)
      · exact OwnS.same (OwnS.callee (H.ch d c HLK.out).out HB4.out) fun k hk => (HS10.out k (H.ne_ hk HBG.out (by simp))).trans ((HGK.out.block k (Nat.lt_of_lt_of_le (hl4 k hk) z7) (fun e => H.ne_ hk e (by simp) rfl)).trans (HG7.out.block k (hl4 k hk) (fun e => H.ne_ hk e (by simp) rfl)))
      · rcases HG7.out.new k h1 with h | h
        · exact H.ne_ h h2 (by simp) rfl
        · have := hl4 k h2
          omega
      · rcases HGK.out.new k h1 with h | h
        · exact H.ne_ h h2 (by simp) rfl
        · have := hl4 k h2
          omega
  · refine wp_lit1 40 3 _ (.int .i64 0) rfl rfl (lit_int 0) ?_
    intro w5 g16 hL_g16 hgr_g16 hge_g16
    have hG_w5 := hgr0.trans (.of_below (below_grown hgr_g16) _)
    have hB_w5 := hb0.trans ((below_grown hgr_g16).mono hb0.size)
    refine ⟨⟨_, rfl⟩, KF.out _ _ hG_w5, ?_⟩
    (try simp only [Act.put, De.l0, De.l1, De.l2])
    (try refine De.MidT.tail ?_)
    refine De.Tr.one (i := 9) (o := ?o35) (by kernel_rfl) ?q35 ?g35 ?h35
    case q35 => (simp only [De.g0, De.g1, De.g2]; rfl)
    case g35 => rfl
    refine wp_lit1 40 3 _ (.int .i64 (s : Int)) rfl rfl (lit_int (s : Int)) ?_
    intro w6 g5 hL_g5 hgr_g5 hge_g5
    have hG_w6 := hG_w5.trans (.of_below (below_grown hgr_g5) _)
    have hB_w6 := hB_w5.trans ((below_grown hgr_g5).mono hB_w5.size)
    refine ⟨⟨_, rfl⟩, KF.out _ _ hG_w6, ?_⟩
    have hL0 := Blk.callee hL_g16 (below_grown hgr_g5)
    have hL5 := hL_g5
    have hge5 : w4.heap.size ≤ g5 := by have := hG_w5.size; have := hB_w5.size; have : w4.drew.heap.size = w4.heap.size := rfl; omega
    have hge16 : w4.heap.size ≤ g16 := by have := hG_w5.size; have := hB_w5.size; have : w4.drew.heap.size = w4.heap.size := rfl; omega
    (try simp only [Act.put, De.l0, De.l1, De.l2])
    (try refine De.MidT.tail ?_)
    refine De.Tr.one (i := 10) (o := ?o36) (by kernel_rfl) ?q36 ?g36 ?h36
    case q36 => (simp only [De.g0, De.g1, De.g2]; rfl)
    case g36 => rfl
    refine wp_enterK 218 #[V (.sizes d), .int .i64 (i : Int), .slice (some ⟨g5, 0, none⟩) 1 1] (by go_simp) (insert_any (OwnI.callee HO4.out hB_w6) (by have := HCO.out.five; omega) i s HIL.out hL5 (HSN.out _ hge5)) ?_
    rintro e w7 ⟨v6, rfl, hO6, hGi⟩
    have hG_w7 := hG_w6.trans hGi
    refine ⟨v6, rfl, ⟨_, rfl⟩, KF.out _ _ hG_w7, ?_⟩
    have hO67 := hO6
    have hL7 := Blk.grew hL0 hGi (HSN.out _ hge16)
    have hst7 : OwnN w7 (V (.stock d)) c.stock := OwnI.grew HT4.out hG_w7 (HH.out.apart (by simp))
    have hch7 := Blk.grew HG4.out hG_w7 (fun e => HH.out.ne_ e HBG.out (by simp) rfl)
    have h16 : w4.heap.size ≤ g16 := hge16
    (try simp only [Act.put, De.l0, De.l1, De.l2])
    (try refine De.MidT.tail ?_)
    refine De.Tr.one (i := 17) (o := ?o37) (by kernel_rfl) ?q37 ?g37 ?h37
    case q37 => (simp only [De.g0, De.g1, De.g2]; rfl)
    case g37 => rfl
    refine wp_enterK 218 #[V (.stock d), .int .i64 (i : Int), .slice (some ⟨g16, 0, none⟩) 1 1] (by go_simp) (insert_any hst7 (by have := HCO.out.five; have := HCO.out.len; omega) i 0 (by rw [HNK.out, ← HN.out]; exact HIL.out) hL7 (HKN.out _ h16)) ?_
    rintro e w8 ⟨v8, rfl, hO8, hGk⟩
    have hz7 := hG_w7.size
    have hch8 := Blk.grew hch7 hGk (fun e => HH.out.ne_ e HBG.out (by simp) rfl)
    have hb18 : Blk w8 g1 208 #[.string d, .int .i64 (s : Int)] := Blk.grew (Blk.grew HG14.out hG_w7 (fun e => by have := HH.out.lt ⟨_, e⟩; have := HGE.out; omega)) hGk (fun e => by have := HH.out.lt ⟨_, e⟩; have := HGE.out; omega)
    have hx68 : Apart v6 (V (.stock d)) := fun k h1 h2 => by
      rcases hG_w7.new k h1 with h | h
      · exact HH.out.ne_ h h2 (by simp) rfl
      · exact HKN.out k h h2
    have hO68 : OwnN w8 v6 (insAt i s c.sizes) := OwnI.grew hO67 hGk hx68
    have a68 : Apart v6 v8 := fun k h1 h2 => by
      rcases hGk.new k h2 with h | h
      · exact hx68 k h1 h
      · have := ownI_lt hO67 h1
        omega
    have K8 : Hid (w8.cell? ⟨g, 0, none⟩ = some (V (.sizes d)) ∧ w8.cell? ⟨g, 1, none⟩ = some (V (.stock d)) ∧ w8.cell? ⟨g1, 1, none⟩ = some (.int .i64 (s : Int))) := ⟨hch8.at_ 0 rfl, hch8.at_ 1 rfl, hb18.at_ 1 rfl⟩
    refine ⟨v8, rfl, ⟨_, rfl⟩, K8.out, ?_⟩
    (try simp only [Act.put, De.l0, De.l1, De.l2])
    refine De.MidT.read (o := ?o38) (v := ?v38) 18 (by decide) ?q38 (by kernel_rfl) (by kernel_rfl) ?w38 (by kernel_rfl) ?y38 ?h38
    case q38 => (simp only [De.g0, De.g1, De.g2]; rfl)
    case w38 => kernel_rfl
    case y38 => (intro w' hw'; obtain ⟨x1, x2, x3⟩ := hw'; go_simp; (try with_reducible rfl))
    (try simp only [Act.put, De.l0, De.l1, De.l2])
    refine De.MidT.read (o := ?o39) (v := ?v39) 19 (by decide) ?q39 (by kernel_rfl) (by kernel_rfl) ?w39 (by kernel_rfl) ?y39 ?h39
    case q39 => (simp only [De.g0, De.g1, De.g2]; rfl)
    case w39 => kernel_rfl
    case y39 => (intro w' hw'; obtain ⟨x1, x2, x3⟩ := hw'; go_simp; (try with_reducible rfl))
    (try simp only [Act.put, De.l0, De.l1, De.l2])
    obtain ⟨A6, c6, e6, _⟩ := ownN_form hO68
    obtain ⟨A8, c8, e8, _⟩ := ownN_form hO8
    have HE6 := Lib.hid e6
    have HE8 := Lib.hid e8
    have NE6 : Hid (∀ k, blkOf v6 = some k → k ≠ g) := fun k h1 e => by
      rcases hG_w7.new k h1 with h | h
      · exact HH.out.ne_ h HBG.out (by simp) e
      · have := (HH.out.callee HB4.out).lt ⟨_, HBG.out⟩
        omega
    have NE8 : Hid (∀ k, blkOf v8 = some k → k ≠ g) := fun k h1 e => by
      rcases hGk.new k h1 with h | h
      · exact HH.out.ne_ h HBG.out (by simp) e
      · have := (HH.out.callee HB4.out).lt ⟨_, HBG.out⟩
        omega
    have c80 : w8.cell? ⟨g, 0, none⟩ = some (V (.sizes d)) := K8.out.1
    have f80 := hch8.frozen 0
    rw [e6, e8]
    (try simp only [Act.put, De.l0, De.l1, De.l2])
    (try refine De.MidT.tail ?_)
    refine De.Tr.one (i := 20) (o := ?o40) (by kernel_rfl) ?q40 ?g40 ?h40
    case q40 => (simp only [De.g0, De.g1, De.g2]; rfl)
    case g40 => rfl
    refine wp_setcell 40 _ _ rfl g 0 (.slice A6 (insAt i s c.sizes).length c6) rfl rfl (by go_simp) ?_
    obtain ⟨w9, hw9⟩ : ∃ y, y = w8.setCell ⟨g, 0, none⟩ (.slice A6 (insAt i s c.sizes).length c6) := ⟨_, rfl⟩
    rw [← hw9]
    have hch9 : Blk w9 g 103 (chestV v6 (V (.stock d)) (V (.outs d)) c) := by rw [hw9, HE6.out]; exact hch8.set_ 0 _
    have st9 : ∀ j, j ≠ g → w9.heap[j]? = w8.heap[j]? := fun j hj => by rw [hw9]; exact Below.heap_setCell w8 ⟨g, 0, none⟩ _ j hj
    have hx9 : w9.os = w8.os ∧ w9.tape = w8.tape ∧ w9.output = w8.output ∧ w9.heap.size = w8.heap.size := by rw [hw9]; exact ⟨rfl, rfl, rfl, by simp⟩
    clear hw9 c80 f80
    refine ⟨⟨_, rfl⟩, trivial, ?_⟩
    (try simp only [Act.put, De.l0, De.l1, De.l2])
    refine De.MidT.read2 (o := ?o41) (v := ?v41) 21 (by decide) ?q41 (by kernel_rfl) (by kernel_rfl) ?w41 ?y41 ?h41
    case q41 => (simp only [De.g0, De.g1, De.g2]; rfl)
    case w41 => kernel_rfl
    case y41 => (intro b w' hw'; clear hw'; go_simp; (try with_reducible rfl))
    (try simp only [Act.put, De.l0, De.l1, De.l2])
    refine De.MidT.read2 (o := ?o42) (v := ?v42) 22 (by decide) ?q42 (by kernel_rfl) (by kernel_rfl) ?w42 ?y42 ?h42
    case q42 => (simp only [De.g0, De.g1, De.g2]; rfl)
    case w42 => kernel_rfl
    case y42 => (intro b w' hw'; clear hw'; go_simp; (try with_reducible rfl))
    (try simp only [Act.put, De.l0, De.l1, De.l2])
    have c91 : w9.cell? ⟨g, 1, none⟩ = some (V (.stock d)) := hch9.at_ 1 rfl
    have f91 := hch9.frozen 1
    (try simp only [Act.put, De.l0, De.l1, De.l2])
    (try refine De.MidT.tail ?_)
    refine De.Tr.one (i := 23) (o := ?o43) (by kernel_rfl) ?q43 ?g43 ?h43
    case q43 => (simp only [De.g0, De.g1, De.g2]; rfl)
    case g43 => rfl
    refine wp_setcell 40 _ _ rfl g 1 (.slice A8 (insAt i 0 c.stock).length c8) rfl rfl (by go_simp) ?_
    obtain ⟨w10, hw10⟩ : ∃ y, y = w9.setCell ⟨g, 1, none⟩ (.slice A8 (insAt i 0 c.stock).length c8) := ⟨_, rfl⟩
    rw [← hw10]
    have hch10 : Blk w10 g 103 (chestV v6 v8 (V (.outs d)) c) := by rw [hw10, HE8.out]; exact hch9.set_ 1 _
    have st10 : ∀ j, j ≠ g → w10.heap[j]? = w8.heap[j]? := fun j hj => by rw [hw10]; exact (Below.heap_setCell w9 ⟨g, 1, none⟩ _ j hj).trans (st9 j hj)
    have hx10 : w10.os = w8.os ∧ w10.tape = w8.tape ∧ w10.output = w8.output ∧ w10.heap.size = w8.heap.size := by rw [hw10]; exact ⟨hx9.1, hx9.2.1, hx9.2.2.1, by simpa using hx9.2.2.2⟩
    clear hw10 c91 f91
    refine ⟨⟨_, rfl⟩, trivial, ?_⟩
    (try refine De.MidT.tail ?_)
    refine De.Tr.done (by kernel_rfl) ?_
    (try simp only [Act.put, De.l0, De.l1, De.l2])
    have HC10 := Lib.hid hch10
    have HS10 := Lib.hid st10
    have HX10 := Lib.hid hx10
    have HO6 := Lib.hid hO68
    have HO8 := Lib.hid hO8
    have HG7 := Lib.hid hG_w7
    have HGK := Lib.hid hGk
    have HA := Lib.hid a68
    clear hch8 hch9 st9 hx9 hch10 st10 hx10 hO68 hO8 hG_w7 hGk a68 hst7 hch7 hb18 hx68 hO67
    go_wp2_with (fail)
    have H := HH.out
    have hl4 : ∀ k, blkOf (V (.outs d)) = some k → k < w4.heap.size := fun k h => (H.callee HB4.out).lt ⟨_, h⟩
    have z7 := HG7.out.size
    have z8 := HGK.out.size
    refine HFIN.out _ _ _ v6 v8 (HDC.out g3 g4 ws wk wo v6 v8 _ w4 w10 HB3.out HK.out ⟨HX10.out.1.trans (HGK.out.os.trans HG7.out.os), HX10.out.2.1.trans (HGK.out.tape.trans HG7.out.tape), HX10.out.2.2.1.trans (HGK.out.output.trans HG7.out.output), by rw [HX10.out.2.2.2]; exact Nat.le_trans z7 z8⟩
      (fun j hj h1 h2 h3 h4 => (HS10.out j h1).trans ((HGK.out.block j (Nat.lt_of_lt_of_le hj z7) h3).trans (HG7.out.block j hj h2))) ⟨⟨g, HG.out, HC10.out⟩, ?_, ?_, ?_⟩ HG7.out.new (fun k hk => (HGK.out.new k hk).imp id (fun h => by omega)) (.self _ _ _) HA.out (fun k h1 h2 => ?_) (fun k h1 h2 => ?_))
    · exact OwnI.same HO6.out fun k hk => HS10.out k (NE6.out k hk)
    · exact OwnI.same HO8.out fun k hk => HS10.out k (NE8.out k hk)
    · exact OwnS.same (OwnS.callee (H.ch d c HLK.out).out HB4.out) fun k hk => (HS10.out k (H.ne_ hk HBG.out (by simp))).trans ((HGK.out.block k (Nat.lt_of_lt_of_le (hl4 k hk) z7) (fun e => H.ne_ hk e (by simp) rfl)).trans (HG7.out.block k (hl4 k hk) (fun e => H.ne_ hk e (by simp) rfl)))
    · rcases HG7.out.new k h1 with h | h
      · exact H.ne_ h h2 (by simp) rfl
      · have := hl4 k h2
        omega
    · rcases HGK.out.new k h1 with h | h
      · exact H.ne_ h h2 (by simp) rfl
      · have := hl4 k h2
        omega
end
end Dr
end Go.Proofs.YtbgakdpbglpfaaaGreatDoor
