/- The texts DrJ to DrR, joined by joinlist.py: their statements say what each proves. -/
import Derived.Test.YtbgakdpbglpfaaaGreatDoorJdf
-- the text DrJ
namespace Go.Proofs.YtbgakdpbglpfaaaGreatDoor
open Go.RowKit
namespace Dr
set_option linter.unusedSimpArgs false
section
variable {w : World} {V : Vals} {S : House}
set_option maxRecDepth 100000 in
theorem eating_no (H : HouseAt w V S) (hS : Oks S) (d : ByteArray) (s : Nat) (E : Int) (hE : E ≠ 0) (hp : placeR V S d s = .tuple #[.pointer none, .int .i64 0, .int .i64 E]) (hd : doP S (.moth d s) = (E, S)) :
    Calls Tryz.prog 243 #[.agg #[.string d, .int .i64 (s : Int)], V .house] w (DoPost V S w (doP S (.moth d s))) := by
  have HPL := Lib.hid (fun (w' : World) (hb : Below w.heap.size w w') => place_any (H.callee hb) hS d s)
  rw [hp] at HPL
  have HP : Hid (∀ e w', e = .returned (.tuple #[.nilFunc, .int .i64 E]) → Below w.heap.size w w' → DoPost V S w (doP S (.moth d s)) e w') := fun e w' he hb => by
    rw [hd]
    exact .no H hE he hb
  obtain ⟨gh, hV, hB⟩ := H.hs
  rw [hV] at HPL ⊢
  generalize hPo : DoPost V S w (doP S (.moth d s)) = Po at HP ⊢
  have hE2 : (E != 0) = true := by simpa using hE
  have hE3 : (E == 0) = false := by simpa using hE
  clear hPo hp hd hE hV hB H hS
  go_enter Tryz.func243, Tryz.ntmps243
  go_wp2_with (first
    | (with_reducible show wpList _ _ _ (⟨_, .box 215 _, _, _, _, _⟩ :: _) _ _
       refine wpList_box_cells rfl 215 _ rfl (.agg #[.string d, .int .i64 (s : Int)]) #[.string d, .int .i64 (s : Int)] rfl rfl ?_
       intro w1 g1 hG1 hgr1 hge1
       have hb1 := below_grown hgr1
       have d0 : w1.cell? ⟨g1, 0, none⟩ = some (.string d) := hG1.at_ 0 rfl
       have d1 : w1.cell? ⟨g1, 1, none⟩ = some (.int .i64 (s : Int)) := hG1.at_ 1 rfl)
    | (go_at_call 228; (with_reducible refine (HPL.out _ hb1).mono ?_); rintro e w2 ⟨rfl, q2, rfl⟩))
  exact HP.out _ _ rfl (below_drewN hb1 _)
theorem moth_over {d : ByteArray} {s : Nat} {c : Chest} (hk : lk d S.chests = some c) (hs : c.shut = false) (hc : c.sizes.contains s = true) (ho : c.stock.getD (pos s c.sizes) 0 = 0) : doP S (.moth d s) = (4, S) := by
  simp only [doP, hk, hs, hc, Bool.not_true, Bool.false_eq_true, if_false]; rw [if_pos ho]
theorem moth_yes {d : ByteArray} {s : Nat} {c : Chest} (hk : lk d S.chests = some c) (hs : c.shut = false) (hc : c.sizes.contains s = true) (ho : ¬ c.stock.getD (pos s c.sizes) 0 = 0) :
    doP S (.moth d s) = (0, S.set d { c with stock := c.stock.set (pos s c.sizes) (c.stock.getD (pos s c.sizes) 0 - 1), eaten := c.eaten + s }) := by
  simp only [doP, hk, hs, hc, Bool.not_true, Bool.false_eq_true, if_false]; rw [if_neg ho]
set_option maxRecDepth 100000 in
theorem eating_yes (H : HouseAt w V S) (hS : Oks S) (d : ByteArray) (s : Nat) {c : Chest} (hk : lk d S.chests = some c) (hs : c.shut = false) (hc : c.sizes.contains s = true) :
    Calls Tryz.prog 243 #[.agg #[.string d, .int .i64 (s : Int)], V .house] w (DoPost V S w (doP S (.moth d s))) := by
  have hco := hS d c hk
  have CA := H.ch d c hk
  obtain ⟨⟨g, hg, hB⟩, hsz, hst, hou⟩ := CA
  obtain ⟨hpl, hps⟩ := pos_lt hco.srt hc
  have hs30 := (hco.rng s (by simpa using hc)).2
  obtain ⟨i, hi⟩ : ∃ i, pos s c.sizes = i := ⟨_, rfl⟩
  have HPL : Hid (∀ (w' : World), Below w.heap.size w w' → Calls Tryz.prog 228 #[V .house, .string d, .int .i64 (s : Int)] w' fun e w2 => e = .returned (.tuple #[.pointer (some ⟨g, 0, none⟩), .int .i64 (i : Int), .int .i64 0]) ∧ ∃ q, w2 = w'.drewN q) := fun w' hb => by
    have h := place_any (H.callee hb) hS d s
    have e : placeR V S d s = .tuple #[.pointer (some ⟨g, 0, none⟩), .int .i64 (i : Int), .int .i64 0] := by
      simp only [placeR, hk, hs, hc, hi, hg]; simp
    rw [e] at h
    exact h
  obtain ⟨Ak, ck, hVk, hck, hcm, hRk, hAk⟩ := ownN_form hst
  obtain ⟨gk, rfl⟩ := hAk (by rw [hco.len]; omega)
  obtain ⟨n, hn⟩ : ∃ n, c.stock.length = n := ⟨_, rfl⟩
  rw [hn] at hVk hck
  have hin : i < n := by rw [← hn, hco.len, ← hi]; exact hpl
  obtain ⟨x, hx⟩ : ∃ x, c.stock[i]? = some x := ⟨_, List.getElem?_eq_getElem (by rw [hn]; exact hin)⟩
  have hx40 : x ≤ 40 := hco.stk x (List.mem_of_getElem? hx)
  have hgd : c.stock.getD i 0 = x := by rw [List.getD_eq_getElem?_getD, hx]; rfl
  have hbou := hco.bou
  unfold maxLen at hcm
  have bg : blkOf (V (.chest d)) = some g := by rw [hg]; rfl
  have bk : blkOf (V (.stock d)) = some gk := by rw [hVk]; rfl
  have ngk : g ≠ gk := H.ne_ bg bk (by simp)
  have hkl := H.lt ⟨_, bk⟩
  have hgl := hB.lt
  have hcell := (ownN_cell (by rw [← hVk]; exact hst) hn.symm hx)
  -- what the region reads
  have c1 : w.cell? ⟨g, 1, none⟩ = some (.slice (some ⟨gk, 0, none⟩) n ck) := hB.at_ 1 (congrArg some hVk)
  obtain ⟨hxc, hxf⟩ := hcell
  by_cases hov : x = 0
  · -- too many
    have hdo := moth_over hk hs hc (by rw [hi, hgd]; exact hov)
    have HP : Hid (∀ e w', e = .returned (.tuple #[.nilFunc, .int .i64 4]) → Below w.heap.size w w' → DoPost V S w (doP S (.moth d s)) e w') := fun e w' he hb => by
      rw [hdo]
      exact .no H (by simp) he hb
    generalize hPo : DoPost V S w (doP S (.moth d s)) = Po at HP ⊢
    obtain ⟨gh, hV, _⟩ := H.hs
    rw [hV] at HPL ⊢
    have hi0 : (0 : Int) ≤ i := by omega
    have hin' : (i : Int) < n := by omega
    have hov' : ((x : Int) == 0) = true := by simp; omega
    clear hPo hdo hov hV hgd hx hx40 hbou hn hk hs hc hi hps hpl hs30 hVk hRk hAk hck hcm hsz hst hou hB H hS hco hg bg bk hxf
    go_enter Tryz.func243, Tryz.ntmps243
    go_wp2_with (first
      | (with_reducible show wpList _ _ _ (⟨_, .box 215 _, _, _, _, _⟩ :: _) _ _
         refine wpList_box_cells rfl 215 _ rfl (.agg #[.string d, .int .i64 (s : Int)]) #[.string d, .int .i64 (s : Int)] rfl rfl ?_
         intro w1 g1 hG1 hgr1 hge1
         have hb1 := below_grown hgr1
         have d0 : w1.cell? ⟨g1, 0, none⟩ = some (.string d) := hG1.at_ 0 rfl
         have d1 : w1.cell? ⟨g1, 1, none⟩ = some (.int .i64 (s : Int)) := hG1.at_ 1 rfl
         have d3 : w1.cell? ⟨g, 1, none⟩ = some (.slice (some ⟨gk, 0, none⟩) n ck) := (hb1.cell (p := ⟨g, 1, none⟩) hgl).trans c1
         have d4 : w1.cell? ⟨gk, i, none⟩ = some (.int .i64 (x : Int)) := (hb1.cell (p := ⟨gk, i, none⟩) hkl).trans hxc)
      | (go_at_call 228; (with_reducible refine (HPL.out _ hb1).mono ?_); rintro e w2 ⟨rfl, q2, rfl⟩))
    exact HP.out _ _ rfl (below_drewN hb1 _)
  · have hdo := moth_yes hk hs hc (by rw [hi, hgd]; exact hov)
    rw [hi, hgd] at hdo
    have HFIN : Hid (∀ f cap w', HouseAt w' (updC V d (V (.sizes d)) (V (.stock d)) (V (.outs d))) (S.set d { c with stock := c.stock.set i (x - 1), eaten := c.eaten + s }) ∧ Frm (Foot V) w (Foot (updC V d (V (.sizes d)) (V (.stock d)) (V (.outs d)))) w' ∧ UndoOk f cap V S w w' →
        DoPost V S w (doP S (.moth d s)) (.returned (.tuple #[.func (.func f) #[] cap, .int .i64 0])) w') := fun f cap w' h => by
      rw [hdo]
      exact Or.inr ⟨rfl, f, cap, _, rfl, h.1, updC_house _ _ _ _ _, h.2.1, h.2.2⟩
    have HCH : Hid (∀ w', Below w.heap.size w w' → Calls Tryz.prog 209 #[.pointer (some ⟨g, 0, none⟩)] w' fun e w4 => ∃ g1 g2 ws wk wo, e = .returned (.func (.func 219) #[] #[.pointer (some ⟨g2, 0, none⟩), .pointer (some ⟨g1, 0, none⟩)]) ∧ Kept w' w4 g g1 g2 ws wk wo c) := fun w' hb => by
      have h := ((H.callee hb).ch d c hk)
      rw [hg] at h
      exact change_any (by have := hco.five; omega) (by have := hco.five; have := hco.len; omega) (by have := hco.outl; omega) h
    have HDC := Lib.hid (fun (g3 g4 : Nat) (ws wk wo : Value) (w3 w4 w6 : World) => deed_chest (g3 := g3) (g4 := g4) (ws := ws) (wk := wk) (wo := wo) (vs' := V (.sizes d)) (vk' := V (.stock d)) (vo' := V (.outs d)) (w3 := w3) (w4 := w4) (w6 := w6) (c' := { c with stock := c.stock.set i (x - 1), eaten := c.eaten + s }) H hk hg)
    generalize hPo : DoPost V S w (doP S (.moth d s)) = Po at HFIN ⊢
    obtain ⟨gh, hV, _⟩ := H.hs
    have HH := Lib.hid H
    have HCO := Lib.hid hco
    have HG := Lib.hid hg
    have HVK := Lib.hid hVk
    have HN := Lib.hid hn
    have HLK := Lib.hid hk
    have HXI := Lib.hid hx
    have HBB := Lib.hid hB
    rw [hV] at HPL ⊢
    have hi0 : (0 : Int) ≤ i := by omega
    have hin' : (i : Int) < n := by omega
    have hov' : ((x : Int) == 0) = false := by simp; omega
    have hx1 : 1 ≤ x := by omega
    have heat := hco.eat
    have hws : IntKind.i64.wrap ((c.eaten : Int) + s) = (c.eaten : Int) + s := IntWalk.i64_in _ (by omega)
    have HWS := Lib.hid hws
    have c3 : w.cell? ⟨g, 4, none⟩ = some (.int .i64 (c.eaten : Int)) := hB.at_ 4 rfl
    clear hPo hdo hov hV hgd hx hbou hn hk hs hc hi hps hpl hs30 hVk hRk hAk hck hcm hsz hst hou hB H hS hco hg bg bk hxf hws heat
    go_enter Tryz.func243, Tryz.ntmps243
    go_wp2_with (first
      | (with_reducible show wpList _ _ _ (⟨_, .box 215 _, _, _, _, _⟩ :: _) _ _
         refine wpList_box_cells rfl 215 _ rfl (.agg #[.string d, .int .i64 (s : Int)]) #[.string d, .int .i64 (s : Int)] rfl rfl ?_
         intro w1 g1 hG1 hgr1 hge1
         have hb1 := below_grown hgr1
         have d0 : w1.cell? ⟨g1, 0, none⟩ = some (.string d) := hG1.at_ 0 rfl
         have d1 : w1.cell? ⟨g1, 1, none⟩ = some (.int .i64 (s : Int)) := hG1.at_ 1 rfl
         have d3 : w1.cell? ⟨g, 1, none⟩ = some (.slice (some ⟨gk, 0, none⟩) n ck) := (hb1.cell (p := ⟨g, 1, none⟩) hgl).trans c1
         have d4 : w1.cell? ⟨gk, i, none⟩ = some (.int .i64 (x : Int)) := (hb1.cell (p := ⟨gk, i, none⟩) hkl).trans hxc)
      | (go_at_call 228; (with_reducible refine (HPL.out _ hb1).mono ?_); rintro e w2 ⟨rfl, q2, rfl⟩)
      | (go_at_call 209; (with_reducible refine (HCH.out _ (below_drewN hb1 q2)).mono ?_)
         rintro e w4 ⟨g3, g4, ws, wk, wo, rfl, hK⟩
         have HK := Lib.hid hK
         have HB3 : Hid (Below w.heap.size w (w1.drewN q2)) := below_drewN hb1 _
         have HB4 : Hid (Below w.heap.size w w4) := HB3.out.trans (hK.be.mono HB3.out.size)
         have HST4 : Hid (OwnN w4 (.slice (some ⟨gk, 0, none⟩) n ck) c.stock) := by rw [Hid, ← HVK.out]; exact OwnI.callee (HH.out.ch d c HLK.out).stock HB4.out
         have HB4g : Hid (Blk w4 g 103 (chestV (V (.sizes d)) (V (.stock d)) (V (.outs d)) c)) := HBB.out.callee HB4.out
         have c4 : w4.cell? ⟨gk, i, none⟩ = some (.int .i64 (x : Int)) := (ownN_cell HST4.out HN.out.symm HXI.out).1
         have f4 : w4.frozen? ⟨gk, i, none⟩ = false := (ownN_cell HST4.out HN.out.symm HXI.out).2
         have e4 : w4.cell? ⟨g, 1, none⟩ = some (.slice (some ⟨gk, 0, none⟩) n ck) := HB4g.out.at_ 1 (congrArg some HVK.out)))
    clear c1 hxc c3
    have HG14 : Hid (Blk w4 g1 215 #[.string d, .int .i64 (s : Int)]) := Blk.callee (w := w1.drewN q2) hG1 hK.be
    have n1 : g1 ≠ gk := fun e => by omega
    have n2 : g1 ≠ g := fun e => by omega
    clear hK d0 d1 d3 d4 hb1 hG1 hgr1 hge1
    obtain ⟨w5, hw5⟩ : ∃ y, y = w4.setCell ⟨gk, i, none⟩ (.int .i64 ((x : Int) - 1)) := ⟨_, rfl⟩
    rw [← hw5]
    have st5 : ∀ j, j ≠ gk → w5.heap[j]? = w4.heap[j]? := fun j hj => by rw [hw5]; exact Below.heap_setCell w4 ⟨gk, i, none⟩ _ j hj
    have HST5 : Hid (OwnN w5 (.slice (some ⟨gk, 0, none⟩) n ck) (c.stock.set i (x - 1))) := by
      rw [hw5]
      have h := ownN_set HST4.out HN.out.symm i (x - 1)
      rw [Int.natCast_sub hx1] at h
      exact h
    have HX5 : Hid (w5.os = w4.os ∧ w5.tape = w4.tape ∧ w5.output = w4.output ∧ w5.heap.size = w4.heap.size) := by rw [hw5]; exact ⟨rfl, rfl, rfl, by simp⟩
    have HG5 : Hid (Blk w5 g 103 (chestV (V (.sizes d)) (V (.stock d)) (V (.outs d)) c)) := (st5 g ngk).trans HB4g.out
    have HG15 : Hid (Blk w5 g1 215 #[.string d, .int .i64 (s : Int)]) := (st5 g1 n1).trans HG14.out
    have KF5 : Hid (w5.cell? ⟨g, 4, none⟩ = some (.int .i64 (c.eaten : Int)) ∧ w5.cell? ⟨g1, 1, none⟩ = some (.int .i64 (s : Int))) := ⟨HG5.out.at_ 4 rfl, HG15.out.at_ 1 rfl⟩
    have HT5 := Lib.hid st5
    clear hw5 c4 f4 e4 st5
    have hws := HWS.out
    clear HWS
    refine De.region_chain (fun w' => w'.cell? ⟨g, 4, none⟩ = some (.int .i64 (c.eaten : Int)) ∧ w'.cell? ⟨g1, 1, none⟩ = some (.int .i64 (s : Int))) (fun w' => w' = w5.drew) 9 9 [] rfl (by kernel_rfl) (by kernel_rfl) (fun w' hw' => ?ji1) rfl ?rd1
    case ji1 => (subst hw'; exact KF5.out)
    refine De.Rd.read (o := ?o2) (v := ?v2) 0 (by decide) ?q2 (by kernel_rfl) (by kernel_rfl) (by kernel_rfl) ?w2 ?y2 ?h2
    case q2 => (simp only [De.g0, De.g1, De.g2]; rfl)
    case w2 => kernel_rfl
    case y2 => (intro w' hw'; obtain ⟨x1, x2⟩ := hw'; go_simp; (try with_reducible rfl))
    (try simp only [Act.put, De.l0, De.l1, De.l2])
    refine De.Rd.read (o := ?o3) (v := ?v3) 1 (by decide) ?q3 (by kernel_rfl) (by kernel_rfl) (by kernel_rfl) ?w3 ?y3 ?h3
    case q3 => (simp only [De.g0, De.g1, De.g2]; rfl)
    case w3 => kernel_rfl
    case y3 => (intro w' hw'; obtain ⟨x1, x2⟩ := hw'; go_simp; (try with_reducible rfl))
    (try simp only [Act.put, De.l0, De.l1, De.l2])
    refine De.Rd.read (o := ?o4) (v := ?v4) 2 (by decide) ?q4 (by kernel_rfl) (by kernel_rfl) (by kernel_rfl) ?w4 ?y4 ?h4
    case q4 => (simp only [De.g0, De.g1, De.g2]; rfl)
    case w4 => kernel_rfl
    case y4 => (intro w' hw'; obtain ⟨x1, x2⟩ := hw'; go_simp; (try with_reducible rfl))
    (try simp only [Act.put, De.l0, De.l1, De.l2])
    refine De.Rd.read (o := ?o5) (v := ?v5) 3 (by decide) ?q5 (by kernel_rfl) (by kernel_rfl) (by kernel_rfl) ?w5 ?y5 ?h5
    case q5 => (simp only [De.g0, De.g1, De.g2]; rfl)
    case w5 => kernel_rfl
    case y5 => (intro w' hw'; obtain ⟨x1, x2⟩ := hw'; go_simp; (try with_reducible rfl))
    (try simp only [Act.put, De.l0, De.l1, De.l2])
    refine De.Rd.read (o := ?o6) (v := ?v6) 4 (by decide) ?q6 (by kernel_rfl) (by kernel_rfl) (by kernel_rfl) ?w6 ?y6 ?h6
    case q6 => (simp only [De.g0, De.g1, De.g2]; rfl)
    case w6 => kernel_rfl
    case y6 => (intro w' hw'; obtain ⟨x1, x2⟩ := hw'; go_simp; (try with_reducible rfl))
    (try simp only [Act.put, De.l0, De.l1, De.l2])
    refine De.Rd.read (o := ?o7) (v := ?v7) 5 (by decide) ?q7 (by kernel_rfl) (by kernel_rfl) (by kernel_rfl) ?w7 ?y7 ?h7
    case q7 => (simp only [De.g0, De.g1, De.g2]; rfl)
    case w7 => kernel_rfl
    case y7 => (intro w' hw'; obtain ⟨x1, x2⟩ := hw'; go_simp; (try with_reducible rfl))
    (try simp only [Act.put, De.l0, De.l1, De.l2])
    refine De.Rd.read (o := ?o8) (v := ?v8) 6 (by decide) ?q8 (by kernel_rfl) (by kernel_rfl) (by kernel_rfl) ?w8 ?y8 ?h8
    case q8 => (simp only [De.g0, De.g1, De.g2]; rfl)
    case w8 => kernel_rfl
    case y8 => (intro w' hw'; obtain ⟨x1, x2⟩ := hw'; go_simp; (try with_reducible rfl))
    (try simp only [Act.put, De.l0, De.l1, De.l2])
    refine De.Rd.read (o := ?o9) (v := ?v9) 7 (by decide) ?q9 (by kernel_rfl) (by kernel_rfl) (by kernel_rfl) ?w9 ?y9 ?h9
    case q9 => (simp only [De.g0, De.g1, De.g2]; rfl)
    case w9 => kernel_rfl
    case y9 => (intro w' hw'; obtain ⟨x1, x2⟩ := hw'; go_simp; (try with_reducible rfl))
    (try simp only [Act.put, De.l0, De.l1, De.l2])
    refine De.Rd.read (o := ?o10) (v := ?v10) 8 (by decide) ?q10 (by kernel_rfl) (by kernel_rfl) (by kernel_rfl) ?w10 ?y10 ?h10
    case q10 => (simp only [De.g0, De.g1, De.g2]; rfl)
    case w10 => kernel_rfl
    case y10 => (intro w' hw'; obtain ⟨x1, x2⟩ := hw'; go_simp; (try with_reducible rfl))
    (try simp only [Act.put, De.l0, De.l1, De.l2])
    refine De.Rd.tail (fun w' hw' => ?_)
    subst hw'
    have c5 : w5.cell? ⟨g, 4, none⟩ = some (.int .i64 (c.eaten : Int)) := KF5.out.1
    have f5 := HG5.out.frozen 4
    (try simp only [Act.put, De.l0, De.l1, De.l2])
    (try refine De.MidP.tail ?_)
    refine De.Tl.write (o := ?o11) (by kernel_rfl) ?q11 ?g11 ?h11
    case q11 => (simp only [De.g0, De.g1, De.g2]; rfl)
    case g11 => rfl
    refine wp_setcell 3 _ _ rfl g 4 (.int .i64 ((c.eaten : Int) + s)) rfl rfl (by go_simp) ?_
    refine ⟨⟨_, rfl⟩, fun h => absurd rfl h, ?_⟩
    (try refine De.MidP.tail ?_)
    refine De.Tl.done (by kernel_rfl) ?_
    (try simp only [Act.put, De.l0, De.l1, De.l2])
    obtain ⟨w6, hw6⟩ : ∃ y, y = w5.drew.setCell ⟨g, 4, none⟩ (.int .i64 ((c.eaten : Int) + s)) := ⟨_, rfl⟩
    rw [← hw6]
    have st6 : ∀ j, j ≠ g → w6.heap[j]? = w5.heap[j]? := fun j hj => by rw [hw6]; exact Below.heap_setCell w5.drew ⟨g, 4, none⟩ _ j hj
    have HG6 : Hid (Blk w6 g 103 #[V (.sizes d), V (.stock d), .bool c.shut, .int .i64 (c.bought : Int), .int .i64 ((c.eaten : Int) + s), V (.outs d)]) := by rw [hw6]; exact Blk.set_ (w := w5.drew) HG5.out 4 _
    have HX6 : Hid (w6.os = w5.os ∧ w6.tape = w5.tape ∧ w6.output = w5.output ∧ w6.heap.size = w5.heap.size) := by rw [hw6]; exact ⟨rfl, rfl, rfl, by simp⟩
    have HT6 := Lib.hid st6
    clear hw6 c5 f5 st6 hws
    go_wp2_with (fail)
    have H := HH.out
    have CA := H.ch d c HLK.out
    have bg : blkOf (V (.chest d)) = some g := by rw [HG.out]; rfl
    have bk : blkOf (V (.stock d)) = some gk := by rw [HVK.out]; rfl
    have hT : ∀ j, j ≠ g → j ≠ gk → w6.heap[j]? = w4.heap[j]? := fun j h1 h2 => (HT6.out j h1).trans (HT5.out j h2)
    have hsz4 := HB4.out.size
    have far : ∀ {r : Role} {j : Nat}, blkOf (V r) = some j → r ≠ .chest d → r ≠ .stock d → w6.heap[j]? = w4.heap[j]? := fun hr r1 r2 => hT _ (H.ne_ hr bg r1) (H.ne_ hr bk r2)
    refine HFIN.out _ _ _ (HDC.out g3 g4 ws wk wo _ w4 w6 HB3.out HK.out ⟨HX6.out.1.trans HX5.out.1, HX6.out.2.1.trans HX5.out.2.1, HX6.out.2.2.1.trans HX5.out.2.2.1, by rw [HX6.out.2.2.2, HX5.out.2.2.2]; exact Nat.le_refl _⟩
      (fun j hj h1 h2 h3 h4 => hT j h1 (fun e => h3 (by rw [e]; exact bk))) ⟨⟨g, HG.out, ?_⟩, ?_, ?_, ?_⟩ (.self _ _ _) (.self _ _ _) (.self _ _ _) (H.apart (by simp)) (H.apart (by simp)) (H.apart (by simp)))
    · have h := HG6.out
      rw [show ((c.eaten + s : Nat) : Int) = (c.eaten : Int) + (s : Int) by simp]
      exact h
    · exact OwnI.same (OwnI.callee CA.sizes HB4.out) fun j hj => far hj (by simp) (by simp)
    · rw [HVK.out]
      exact OwnI.same HST5.out fun j hj => HT6.out j (by
        obtain rfl : gk = j := by injection hj
        exact Ne.symm ngk)
    · exact OwnS.same (OwnS.callee CA.out HB4.out) fun j hj => far hj (by simp) (by simp)
end
end Dr
end Go.Proofs.YtbgakdpbglpfaaaGreatDoor
-- the text DrQ
namespace Go.Proofs.YtbgakdpbglpfaaaGreatDoor
open Go.RowKit
namespace Dr
set_option linter.unusedSimpArgs false
section
variable {w : World} {V : Vals} {S : House}
theorem quiet_add {P : Program} {f : FuncId} {args : Array Value} {w : World} {a n : Nat} {v : Value}
    (h : Calls P f args (w.drewN (a + n)) fun e w' => e = .returned v ∧ ∃ m, w' = (w.drewN (a + n)).drewN m) :
    Calls P f args (w.drewN (a + n)) fun e w'' => e = .returned v ∧ ∃ m, w'' = w.drewN (a + m) :=
  h.mono fun _ _ ⟨he, m, hm⟩ => ⟨he, n + m, by rw [hm, World.drewN_drewN, Nat.add_assoc]⟩
theorem nothing_any (w : World) : Calls Tryz.prog 245 #[] w fun e w' => e = .returned (.tuple #[]) ∧ w' = w := by
  go_enter Tryz.func245, Tryz.ntmps245
  go_wp2_with (fail)
  go_end0
  exact ⟨rfl, rfl⟩
theorem DoPost.same {w' : World} {r : Int × House} {e : Ending} (H : HouseAt w V S) (hr : r = (0, S)) (he : e = .returned (.tuple #[.func (.func 245) #[] #[], .int .i64 0])) (hb : Below w.heap.size w w') : DoPost V S w r e w' := by
  subst hr
  refine Or.inr ⟨rfl, _, _, V, he, H.callee hb, rfl, Frm.below hb, enters_of Tryz.func245 (by kernel_rfl) rfl, fun w'' hb'' => ?_⟩
  refine (nothing_any w'').mono ?_
  rintro e w9 ⟨rfl, rfl⟩
  exact ⟨rfl, V, (H.callee hb).later hb'' (fun i hi => Or.inl hi), rfl, rfl, rfl, rfl, Nat.le_refl _, fun _ _ _ => rfl, fun i hi => Or.inl hi⟩
set_option maxRecDepth 100000 in
theorem counting_any (H : HouseAt w V S) (hS : Oks S) (d : ByteArray) (s k : Nat) :
    Calls Tryz.prog 244 #[.agg #[.string d, .int .i64 (s : Int), .int .i64 (k : Int)], V .house] w (DoPost V S w (doP S (.count d s k))) := by
  obtain ⟨gh, hV, hB⟩ := H.hs
  obtain ⟨gc, hVc, _⟩ := H.mc
  have HLK := Lib.hid (fun (w' : World) (hb : Below w.heap.size w w') => H.lookC (fun g hg => hb.block g (H.lt hg)) hVc d)
  have c1 : w.cell? ⟨gh, 1, none⟩ = some (.map (some gc)) := by rw [← hVc]; exact hB.cell 1
  have hgh := hB.lt
  have HP : Hid (∀ e w' (R : Int), R ≠ 0 → doP S (.count d s k) = (R, S) → e = .returned (.tuple #[.nilFunc, .int .i64 R]) → Below w.heap.size w w' → DoPost V S w (doP S (.count d s k)) e w') := fun e w' R hR hd he hb => by
    rw [hd]
    exact .no H hR he hb
  have HPS : Hid (∀ e w', doP S (.count d s k) = (0, S) → e = .returned (.tuple #[.func (.func 245) #[] #[], .int .i64 0]) → Below w.heap.size w w' → DoPost V S w (doP S (.count d s k)) e w') := fun e w' hd he hb => .same H hd he hb
  generalize hPo : DoPost V S w (doP S (.count d s k)) = Po at HP HPS ⊢
  rw [hV]
  cases hk : lk d S.chests with
  | none =>
    have HL2 : Hid (∀ w', Below w.heap.size w w' → (Instr.lookup 107 (.map (some gc)) (.string d) false).run Tryz.prog w' = .ok (.pointer none) w') := by
      intro w' hb
      have := HLK.out w' hb
      rw [hk] at this
      exact this
    have HF : Hid (∀ e w', e = .returned (.tuple #[.nilFunc, .int .i64 2]) → Below w.heap.size w w' → Po e w') := fun e w' he hb => HP.out e w' 2 (by decide) (by rw [doP, hk]) he hb
    clear HP HPS hPo HLK hk hV hVc hB H hS
    go_enter Tryz.func244, Tryz.ntmps244
    go_wp2_with (first
      | (with_reducible show wpList _ _ _ (⟨_, .box 216 _, _, _, _, _⟩ :: _) _ _
         refine wpList_box_cells rfl 216 _ rfl (.agg #[.string d, .int .i64 (s : Int), .int .i64 (k : Int)]) #[.string d, .int .i64 (s : Int), .int .i64 (k : Int)] rfl rfl ?_
         intro w1 g1 hG1 hgr1 hge1
         have hb1 := below_grown hgr1
         have d0 : w1.cell? ⟨g1, 0, none⟩ = some (.string d) := hG1.at_ 0 rfl
         have d1 : w1.cell? ⟨gh, 1, none⟩ = some (.map (some gc)) := (hb1.cell (p := ⟨gh, 1, none⟩) hgh).trans c1
         have d4 := fun q => HL2.out (w1.drewN q) (below_drewN hb1 q)))
    have HB1 := Lib.hid hb1
    clear hb1 hgr1 c1
    go_quiet (fail)
    go_wp2_with (fail)
    exact HF.out _ _ rfl (below_drewN HB1.out _)
  | some c =>
    have hco := hS d c hk
    obtain ⟨⟨g, hg, hBc⟩, hsz, hst, hou⟩ := H.ch d c hk
    have HL2 : Hid (∀ w', Below w.heap.size w w' → (Instr.lookup 107 (.map (some gc)) (.string d) false).run Tryz.prog w' = .ok (.pointer (some ⟨g, 0, none⟩)) w') := by
      intro w' hb
      have := HLK.out w' hb
      rw [hk, hg] at this
      exact this
    have hgl := hBc.lt
    have e0 : w.cell? ⟨g, 0, none⟩ = some (V (.sizes d)) := hBc.at_ 0 rfl
    obtain ⟨i, hi⟩ : ∃ i, pos s c.sizes = i := ⟨_, rfl⟩
    have HSE : Hid (∀ w', Below w.heap.size w w' → Calls Tryz.prog 217 #[V (.sizes d), .int .i64 (s : Int)] w' fun e w2 => e = .returned (.tuple #[.int .i64 (i : Int), .bool (c.sizes.contains s)]) ∧ ∃ q, w2 = w'.drewN q) := fun w' hb => by
      rw [← hi]
      exact search_any (OwnI.callee hsz hb) (by have := hco.five; omega) hco.srt s
    cases hc : c.sizes.contains s with
    | false =>
      have HF : Hid (∀ e w', e = .returned (.tuple #[.nilFunc, .int .i64 2]) → Below w.heap.size w w' → Po e w') := fun e w' he hb => HP.out e w' 2 (by decide) (by simp only [doP, hk, hc]; simp) he hb
      rw [hc] at HSE
      clear HP HPS hPo HLK hk hV hVc hB H hS hco hg hBc hsz hst hou hc hi
      go_enter Tryz.func244, Tryz.ntmps244
      go_wp2_with (first
        | (with_reducible show wpList _ _ _ (⟨_, .box 216 _, _, _, _, _⟩ :: _) _ _
           refine wpList_box_cells rfl 216 _ rfl (.agg #[.string d, .int .i64 (s : Int), .int .i64 (k : Int)]) #[.string d, .int .i64 (s : Int), .int .i64 (k : Int)] rfl rfl ?_
           intro w1 g1 hG1 hgr1 hge1
           have hb1 := below_grown hgr1
           have d0 : w1.cell? ⟨g1, 0, none⟩ = some (.string d) := hG1.at_ 0 rfl
           have d2 : w1.cell? ⟨g1, 1, none⟩ = some (.int .i64 (s : Int)) := hG1.at_ 1 rfl
           have d1 : w1.cell? ⟨gh, 1, none⟩ = some (.map (some gc)) := (hb1.cell (p := ⟨gh, 1, none⟩) hgh).trans c1
           have d3 : w1.cell? ⟨g, 0, none⟩ = some (V (.sizes d)) := (hb1.cell (p := ⟨g, 0, none⟩) hgl).trans e0
           have d4 := fun q => HL2.out (w1.drewN q) (below_drewN hb1 q)))
      have HB1 := Lib.hid hb1
      clear hb1 hgr1 c1 e0
      go_quiet (fail)
      go_wp2_with (fail)
      clear d4
      go_quiet ((go_at_call 217; exact quiet_add (HSE.out _ (below_drewN HB1.out _))))
      go_wp2_with (fail)
      exact HF.out _ _ rfl (below_drewN HB1.out _)
    | true =>
      obtain ⟨hpl, hps⟩ := pos_lt hco.srt hc
      rw [hi] at hpl
      obtain ⟨Ak, ck, hVk, hck, hcm, hRk, hAk⟩ := ownN_form hst
      obtain ⟨gk, rfl⟩ := hAk (by rw [hco.len]; omega)
      obtain ⟨n, hn⟩ : ∃ n, c.stock.length = n := ⟨_, rfl⟩
      rw [hn] at hVk hck
      have hin : i < n := by rw [← hn, hco.len]; exact hpl
      obtain ⟨x, hx⟩ : ∃ x, c.stock[i]? = some x := ⟨_, List.getElem?_eq_getElem (by rw [hn]; exact hin)⟩
      have hgd : c.stock.getD i 0 = x := by rw [List.getD_eq_getElem?_getD, hx]; rfl
      have hcell := (ownN_cell (by rw [← hVk]; exact hst) hn.symm hx).1
      have hkl := H.lt ⟨.stock d, by rw [hVk]; rfl⟩
      have e1 : w.cell? ⟨g, 1, none⟩ = some (.slice (some ⟨gk, 0, none⟩) n ck) := hBc.at_ 1 (congrArg some hVk)
      have hi0 : (0 : Int) ≤ i := by omega
      have hin' : (i : Int) < n := by omega
      rw [hc] at HSE
      unfold maxLen at hcm
      by_cases hxk : x = k
      · subst hxk
        have HF : Hid (∀ e w', e = .returned (.tuple #[.func (.func 245) #[] #[], .int .i64 0]) → Below w.heap.size w w' → Po e w') := fun e w' he hb => HPS.out e w' (by simp only [doP, hk, hc, hi, hgd]; simp) he hb
        clear HP HPS hPo HLK hk hV hVc hB H hS hco hg hBc hsz hst hou hc hi hpl hps hVk hck hRk hAk hn hgd hx
        go_enter Tryz.func244, Tryz.ntmps244
        go_wp2_with (first
          | (with_reducible show wpList _ _ _ (⟨_, .box 216 _, _, _, _, _⟩ :: _) _ _
             refine wpList_box_cells rfl 216 _ rfl (.agg #[.string d, .int .i64 (s : Int), .int .i64 (x : Int)]) #[.string d, .int .i64 (s : Int), .int .i64 (x : Int)] rfl rfl ?_
             intro w1 g1 hG1 hgr1 hge1
             have hb1 := below_grown hgr1
             have d0 : w1.cell? ⟨g1, 0, none⟩ = some (.string d) := hG1.at_ 0 rfl
             have d2 : w1.cell? ⟨g1, 1, none⟩ = some (.int .i64 (s : Int)) := hG1.at_ 1 rfl
             have d7 : w1.cell? ⟨g1, 2, none⟩ = some (.int .i64 (x : Int)) := hG1.at_ 2 rfl
             have d1 : w1.cell? ⟨gh, 1, none⟩ = some (.map (some gc)) := (hb1.cell (p := ⟨gh, 1, none⟩) hgh).trans c1
             have d3 : w1.cell? ⟨g, 0, none⟩ = some (V (.sizes d)) := (hb1.cell (p := ⟨g, 0, none⟩) hgl).trans e0
             have d5 : w1.cell? ⟨g, 1, none⟩ = some (.slice (some ⟨gk, 0, none⟩) n ck) := (hb1.cell (p := ⟨g, 1, none⟩) hgl).trans e1
             have d6 : w1.cell? ⟨gk, i, none⟩ = some (.int .i64 (x : Int)) := (hb1.cell (p := ⟨gk, i, none⟩) hkl).trans hcell
             have d4 := fun q => HL2.out (w1.drewN q) (below_drewN hb1 q)))
        have HB1 := Lib.hid hb1
        clear hb1 hgr1 c1 e0 e1 hcell
        go_quiet (fail)
        go_wp2_with (fail)
        clear d4
        go_quiet ((go_at_call 217; exact quiet_add (HSE.out _ (below_drewN HB1.out _))))
        go_wp2_with (fail)
        go_quiet (fail)
        go_wp2_with (fail)
        exact HF.out _ _ rfl (below_drewN HB1.out _)
      · have HF : Hid (∀ e w', e = .returned (.tuple #[.nilFunc, .int .i64 13]) → Below w.heap.size w w' → Po e w') := fun e w' he hb => HP.out e w' 13 (by decide) (by simp only [doP, hk, hc, hi, hgd]; simp [hxk]) he hb
        have hne : ((x : Int) != k) = true := by simp; omega
        have hne2 : ((x : Int) == k) = false := by simp; omega
        clear HP HPS hPo HLK hk hV hVc hB H hS hco hg hBc hsz hst hou hc hi hpl hps hVk hck hRk hAk hn hgd hx hxk
        go_enter Tryz.func244, Tryz.ntmps244
        go_wp2_with (first
          | (with_reducible show wpList _ _ _ (⟨_, .box 216 _, _, _, _, _⟩ :: _) _ _
             refine wpList_box_cells rfl 216 _ rfl (.agg #[.string d, .int .i64 (s : Int), .int .i64 (k : Int)]) #[.string d, .int .i64 (s : Int), .int .i64 (k : Int)] rfl rfl ?_
             intro w1 g1 hG1 hgr1 hge1
             have hb1 := below_grown hgr1
             have d0 : w1.cell? ⟨g1, 0, none⟩ = some (.string d) := hG1.at_ 0 rfl
             have d2 : w1.cell? ⟨g1, 1, none⟩ = some (.int .i64 (s : Int)) := hG1.at_ 1 rfl
             have d7 : w1.cell? ⟨g1, 2, none⟩ = some (.int .i64 (k : Int)) := hG1.at_ 2 rfl
             have d1 : w1.cell? ⟨gh, 1, none⟩ = some (.map (some gc)) := (hb1.cell (p := ⟨gh, 1, none⟩) hgh).trans c1
             have d3 : w1.cell? ⟨g, 0, none⟩ = some (V (.sizes d)) := (hb1.cell (p := ⟨g, 0, none⟩) hgl).trans e0
             have d5 : w1.cell? ⟨g, 1, none⟩ = some (.slice (some ⟨gk, 0, none⟩) n ck) := (hb1.cell (p := ⟨g, 1, none⟩) hgl).trans e1
             have d6 : w1.cell? ⟨gk, i, none⟩ = some (.int .i64 (x : Int)) := (hb1.cell (p := ⟨gk, i, none⟩) hkl).trans hcell
             have d4 := fun q => HL2.out (w1.drewN q) (below_drewN hb1 q)))
        have HB1 := Lib.hid hb1
        clear hb1 hgr1 c1 e0 e1 hcell
        go_quiet (fail)
        go_wp2_with (fail)
        clear d4
        go_quiet ((go_at_call 217; exact quiet_add (HSE.out _ (below_drewN HB1.out _))))
        go_wp2_with (fail)
        go_quiet (fail)
        go_wp2_with (fail)
        exact HF.out _ _ rfl (below_drewN (below_drewN HB1.out _) _)
end
end Dr
end Go.Proofs.YtbgakdpbglpfaaaGreatDoor
-- the text DrR
namespace Go.Proofs.YtbgakdpbglpfaaaGreatDoor
open Go.RowKit
namespace Dr
set_option linter.unusedSimpArgs false
section
variable {w : World} {V : Vals} {S : House}
theorem wp_alloc_one {P : Program} {w : World} {o : Oper} {a : Act} {K : Act → World → Prop} {Q : Exit → Act → World → Prop} (ty : TypeId) (z : Value) (ho : o.op = .alloc ty) (hz : ∀ w : World, (zeroValue ty).run P w = .ok z w) (hc : z.cells = #[z])
    (h : ∀ (w' : World) (g : Nat), Blk w' g ty #[z] → w.grownBy w' none → w.heap.size ≤ g → K (a.put o.dst (.pointer (some ⟨g, 0, none⟩))) w') : o.wp P a w K Q := by
  have hh := h (w.alloc (.cells #[z] ty)) w.heap.size (Blk.new _ _ _) (World.grownBy_alloc w _ none) (Nat.le_refl _)
  rw [← hc] at hh
  unfold Oper.wp execOp
  simp only [ho]
  simpa [go_sem, hz] using hh
/-- the drawer with its lock turned -/
theorem lock_set {d : ByteArray} {c : Chest} {g : Nat} {b : Bool} {w' : World} (H : HouseAt w V S) (hk : lk d S.chests = some c) (hg : V (.chest d) = .pointer (some ⟨g, 0, none⟩)) (hst : ∀ i, i ≠ g → i < w.heap.size → w'.heap[i]? = w.heap[i]?)
    (hB : Blk w' g 103 (chestV (V (.sizes d)) (V (.stock d)) (V (.outs d)) { c with shut := b })) : HouseAt w' V (S.set d { c with shut := b }) := by
  have bg : blkOf (V (.chest d)) = some g := by rw [hg]; rfl
  have CA := H.ch d c hk
  have far : ∀ {r : Role} {j : Nat}, blkOf (V r) = some j → r ≠ .chest d → w'.heap[j]? = w.heap[j]? := fun {r j} hr r1 => hst j (H.ne_ hr bg r1) (H.lt ⟨r, hr⟩)
  have h := H.setChest (w' := w') (c' := { c with shut := b }) hk (fun r j hr r1 _ _ _ => far hr r1) (vs := V (.sizes d)) (vk := V (.stock d)) (vo := V (.outs d)) ⟨⟨g, hg, hB⟩, OwnI.same CA.sizes fun j hj => far hj (by simp), OwnI.same CA.stock fun j hj => far hj (by simp), OwnS.same CA.out fun j hj => far hj (by simp)⟩
    (.self _ _) (.self _ _) (.self _ _) (H.apart (by simp)) (H.apart (by simp)) (H.apart (by simp))
  rw [updC_same] at h
  exact h
set_option maxRecDepth 100000 in
theorem lock_undo {d : ByteArray} {g g1 g2 : Nat} {b : Bool} {cs : Array Value} (hG1 : Blk w g1 218 #[.string d, .bool b]) (hG2 : Blk w g2 98 #[.pointer (some ⟨g, 0, none⟩)]) (hB : Blk w g 103 cs) {u : Value} (hu : cs[2]? = some u) :
    Calls Tryz.prog 247 #[.pointer (some ⟨g1, 0, none⟩), .pointer (some ⟨g2, 0, none⟩)] w fun e w' => e = .returned (.tuple #[]) ∧ Blk w' g 103 (cs.setIfInBounds 2 (.bool !b)) ∧ w.grownBy w' (some g) := by
  have d1 : w.cell? ⟨g1, 1, none⟩ = some (.bool b) := hG1.at_ 1 rfl
  have d2 : w.cell? ⟨g2, 0, none⟩ = some (.pointer (some ⟨g, 0, none⟩)) := hG2.at_ 0 rfl
  have d3 : w.cell? ⟨g, 2, none⟩ = some u := hB.at_ 2 hu
  have f3 := hB.frozen 2
  have HB := Lib.hid hB
  clear hu hG1 hG2 hB
  go_enter Tryz.func247, Tryz.ntmps247
  go_wp2_with (fail)
  go_end0
  exact ⟨rfl, HB.out.set_ 2 _, ⟨rfl, rfl, rfl, by simp, fun i _ hi => Below.heap_setCell w ⟨g, 2, none⟩ _ i (fun e => hi (by rw [e]))⟩⟩
theorem lock_no {d : ByteArray} {b : Bool} : (lk d S.chests = none ∧ doP S (.lock d b) = (2, S)) ∨ ∃ c, lk d S.chests = some c ∧ (doP S (.lock d b) = if c.shut && b then (20, S) else if !c.shut && !b then (21, S) else (0, S.set d { c with shut := b })) := by
  cases hk : lk d S.chests with
  | none => exact Or.inl ⟨rfl, by rw [doP, hk]⟩
  | some c => exact Or.inr ⟨c, rfl, by rw [doP, hk]⟩
set_option maxRecDepth 100000 in
theorem locking_any (H : HouseAt w V S) (d : ByteArray) (b : Bool) :
    Calls Tryz.prog 246 #[.agg #[.string d, .bool b], V .house] w (DoPost V S w (doP S (.lock d b))) := by
  obtain ⟨gh, hV, hB⟩ := H.hs
  obtain ⟨gc, hVc, _⟩ := H.mc
  have HLK := Lib.hid (fun (w' : World) (hb : Below w.heap.size w w') => H.lookC (fun g hg => hb.block g (H.lt hg)) hVc d)
  have c1 : w.cell? ⟨gh, 1, none⟩ = some (.map (some gc)) := by rw [← hVc]; exact hB.cell 1
  have hgh := hB.lt
  have HP : Hid (∀ e w' (R : Int), R ≠ 0 → doP S (.lock d b) = (R, S) → e = .returned (.tuple #[.nilFunc, .int .i64 R]) → Below w.heap.size w w' → DoPost V S w (doP S (.lock d b)) e w') := fun e w' R hR hd he hb => by
    rw [hd]
    exact .no H hR he hb
  have HH := Lib.hid H
  rcases lock_no (S := S) (d := d) (b := b) with ⟨hk, hdo⟩ | ⟨c, hk, hdo⟩
  · have HL2 : Hid (∀ w', Below w.heap.size w w' → (Instr.lookup 107 (.map (some gc)) (.string d) false).run Tryz.prog w' = .ok (.pointer none) w') := by
      intro w' hb
      have := HLK.out w' hb
      rw [hk] at this
      exact this
    have HF : Hid (∀ e w', e = .returned (.tuple #[.nilFunc, .int .i64 2]) → Below w.heap.size w w' → DoPost V S w (doP S (.lock d b)) e w') := fun e w' he hb => HP.out e w' 2 (by decide) hdo he hb
    generalize hPo : DoPost V S w (doP S (.lock d b)) = Po at HF ⊢
    rw [hV]
    clear HP hPo hdo HLK hk hV hVc hB H
    go_enter Tryz.func246, Tryz.ntmps246
    go_wp2_with (first
      | (with_reducible show wpList _ _ _ (⟨_, .box 218 _, _, _, _, _⟩ :: _) _ _
         refine wpList_box_cells rfl 218 _ rfl (.agg #[.string d, .bool b]) #[.string d, .bool b] rfl rfl ?_
         intro w1 g1 hG1 hgr1 hge1
         have hb1 := below_grown hgr1))
    have HB1 := Lib.hid hb1
    have hd0 : w1.cell? ⟨g1, 0, none⟩ = some (.string d) := hG1.at_ 0 rfl
    have hd1 : w1.cell? ⟨gh, 1, none⟩ = some (.map (some gc)) := (hb1.cell (p := ⟨gh, 1, none⟩) hgh).trans c1
    have KF : Hid (∀ w', Below w1.heap.size w1 w' → w'.cell? ⟨g1, 0, none⟩ = some (.string d) ∧ w'.cell? ⟨gh, 1, none⟩ = some (.map (some gc)) ∧ (Instr.lookup 107 (.map (some gc)) (.string d) false).run Tryz.prog w' = .ok (.pointer none) w') := fun w' hb => ⟨(hb.cell (p := ⟨g1, 0, none⟩) hG1.lt).trans hd0, (hb.cell (p := ⟨gh, 1, none⟩) (by have := HB1.out.size; show gh < _; omega)).trans hd1, HL2.out w' (HB1.out.trans (hb.mono HB1.out.size))⟩
    clear hb1 hgr1 c1 hG1 hd0 hd1
    refine De.region_chain (fun w' => w'.cell? ⟨g1, 0, none⟩ = some (.string d) ∧ w'.cell? ⟨gh, 1, none⟩ = some (.map (some gc)) ∧ (Instr.lookup 107 (.map (some gc)) (.string d) false).run Tryz.prog w' = .ok (.pointer none) w') (fun w' => w' = w1.drew) 7 8 [8] rfl (by kernel_rfl) (by kernel_rfl) (fun w' hw' => ?ji1) rfl ?rd1
    case ji1 => (subst hw'; exact KF.out _ (Below.refl _ _).drew)
    refine De.Rd.read (o := ?o2) (v := ?v2) 0 (by decide) ?q2 (by kernel_rfl) (by kernel_rfl) (by kernel_rfl) ?w2 ?y2 ?h2
    case q2 => (simp only [De.g0, De.g1, De.g2]; rfl)
    case w2 => kernel_rfl
    case y2 => (intro w' hw'; obtain ⟨x1, x2, x3⟩ := hw'; go_simp; (try with_reducible rfl))
    (try simp only [Act.put, De.l0, De.l1, De.l2])
    refine De.Rd.read (o := ?o3) (v := ?v3) 1 (by decide) ?q3 (by kernel_rfl) (by kernel_rfl) (by kernel_rfl) ?w3 ?y3 ?h3
    case q3 => (simp only [De.g0, De.g1, De.g2]; rfl)
    case w3 => kernel_rfl
    case y3 => (intro w' hw'; obtain ⟨x1, x2, x3⟩ := hw'; go_simp; (try with_reducible rfl))
    (try simp only [Act.put, De.l0, De.l1, De.l2])
    refine De.Rd.read (o := ?o4) (v := ?v4) 2 (by decide) ?q4 (by kernel_rfl) (by kernel_rfl) (by kernel_rfl) ?w4 ?y4 ?h4
    case q4 => (simp only [De.g0, De.g1, De.g2]; rfl)
    case w4 => kernel_rfl
    case y4 => (intro w' hw'; obtain ⟨x1, x2, x3⟩ := hw'; go_simp; (try with_reducible rfl))
    (try simp only [Act.put, De.l0, De.l1, De.l2])
    refine De.Rd.read (o := ?o5) (v := ?v5) 3 (by decide) ?q5 (by kernel_rfl) (by kernel_rfl) (by kernel_rfl) ?w5 ?y5 ?h5
    case q5 => (simp only [De.g0, De.g1, De.g2]; rfl)
    case w5 => kernel_rfl
    case y5 => (intro w' hw'; obtain ⟨x1, x2, x3⟩ := hw'; go_simp; (try with_reducible rfl))
    (try simp only [Act.put, De.l0, De.l1, De.l2])
    refine De.Rd.read (o := ?o6) (v := ?v6) 4 (by decide) ?q6 (by kernel_rfl) (by kernel_rfl) (by kernel_rfl) ?w6 ?y6 ?h6
    case q6 => (simp only [De.g0, De.g1, De.g2]; rfl)
    case w6 => kernel_rfl
    case y6 => (intro w' hw'; obtain ⟨x1, x2, x3⟩ := hw'; go_simp; (try with_reducible rfl))
    (try simp only [Act.put, De.l0, De.l1, De.l2])
    refine De.Rd.read (o := ?o7) (v := ?v7) 5 (by decide) ?q7 (by kernel_rfl) (by kernel_rfl) (by kernel_rfl) ?w7 ?y7 ?h7
    case q7 => (simp only [De.g0, De.g1, De.g2]; rfl)
    case w7 => kernel_rfl
    case y7 => (intro w' hw'; obtain ⟨x1, x2, x3⟩ := hw'; go_simp; (try with_reducible rfl))
    (try simp only [Act.put, De.l0, De.l1, De.l2])
    refine De.Rd.read (o := ?o8) (v := ?v8) 6 (by decide) ?q8 (by kernel_rfl) (by kernel_rfl) (by kernel_rfl) ?w8 ?y8 ?h8
    case q8 => (simp only [De.g0, De.g1, De.g2]; rfl)
    case w8 => kernel_rfl
    case y8 => (intro w' hw'; obtain ⟨x1, x2, x3⟩ := hw'; go_simp; (try with_reducible rfl))
    (try simp only [Act.put, De.l0, De.l1, De.l2])
    refine De.Rd.tail (fun w' hw' => ?_)
    subst hw'
    (try simp only [Act.put, De.l0, De.l1, De.l2])
    (try refine De.MidP.tail ?_)
    refine De.Tl.write (o := ?o9) (by kernel_rfl) ?q9 ?g9 ?h9
    case q9 => (simp only [De.g0, De.g1, De.g2]; rfl)
    case g9 => rfl
    refine wp_alloc_one 98 (.pointer none) rfl zero_ptr rfl ?_
    intro w2 g2 hG2 hgr2 hge2
    have hb2 : Below w1.heap.size w1 w2 := (Below.refl _ _).drew.trans (below_grown hgr2)
    refine ⟨⟨_, rfl⟩, fun _ => KF.out _ hb2, ?_⟩
    have c2 : w2.cell? ⟨g2, 0, none⟩ = some (.pointer none) := hG2.at_ 0 rfl
    have f2 := hG2.frozen 0
    (try simp only [Act.put, De.l0, De.l1, De.l2])
    (try refine De.MidP.tail ?_)
    refine De.Tl.write (o := ?o10) (by kernel_rfl) ?q10 ?g10 ?h10
    case q10 => (simp only [De.g0, De.g1, De.g2]; rfl)
    case g10 => rfl
    refine wp_setcell 98 _ _ rfl g2 0 (.pointer none) rfl rfl (by go_simp) ?_
    refine ⟨⟨_, rfl⟩, fun h => absurd rfl h, ?_⟩
    (try refine De.MidP.tail ?_)
    refine De.Tl.done (by kernel_rfl) ?_
    (try simp only [Act.put, De.l0, De.l1, De.l2])
    have hb3 : Below w.heap.size w (w2.setCell ⟨g2, 0, none⟩ (.pointer none)) := (HB1.out.trans (hb2.mono HB1.out.size)).setCell (by have := HB1.out.size; show _ ≤ g2; exact Nat.le_trans this hge2) _
    obtain ⟨w3, hw3⟩ : ∃ y, y = w2.setCell ⟨g2, 0, none⟩ (.pointer none) := ⟨_, rfl⟩
    rw [← hw3] at hb3 ⊢
    have c3 : w3.cell? ⟨g2, 0, none⟩ = some (.pointer none) := by rw [hw3]; exact (hG2.set_ 0 (.pointer none)).at_ 0 rfl
    have HB3 := Lib.hid hb3
    clear hw3 hb3 c2 f2 hG2 hgr2 hb2
    go_wp2_with (fail)
    exact HF.out _ _ rfl HB3.out
  · obtain ⟨⟨g, hg, hBc⟩, hsz, hst, hou⟩ := H.ch d c hk
    have HL2 : Hid (∀ w', Below w.heap.size w w' → (Instr.lookup 107 (.map (some gc)) (.string d) false).run Tryz.prog w' = .ok (.pointer (some ⟨g, 0, none⟩)) w') := by
      intro w' hb
      have := HLK.out w' hb
      rw [hk, hg] at this
      exact this
    have hgl := hBc.lt
    have HBC := Lib.hid hBc
    have HLKD := Lib.hid hk
    have HG := Lib.hid hg
    have HDO := Lib.hid hdo
    have hbg : blkOf (V (.chest d)) = some g := by rw [hg]; rfl
    have HBG := Lib.hid hbg
    generalize hPo : DoPost V S w (doP S (.lock d b)) = Po at HP ⊢
    have HPO := Lib.hid hPo
    have HVV := Lib.hid hV
    rw [hV]
    obtain ⟨sh, hsh⟩ : ∃ sh, c.shut = sh := ⟨_, rfl⟩
    have HSH := Lib.hid hsh
    have e2 : w.cell? ⟨g, 2, none⟩ = some (.bool sh) := hBc.at_ 2 (by rw [← hsh]; rfl)
    clear hPo hdo HLK hk hV hVc hB H hsz hst hou hBc hg hsh hbg
    go_enter Tryz.func246, Tryz.ntmps246
    go_wp2_with (first
      | (with_reducible show wpList _ _ _ (⟨_, .box 218 _, _, _, _, _⟩ :: _) _ _
         refine wpList_box_cells rfl 218 _ rfl (.agg #[.string d, .bool b]) #[.string d, .bool b] rfl rfl ?_
         intro w1 g1 hG1 hgr1 hge1
         have hb1 := below_grown hgr1))
    have HB1 := Lib.hid hb1
    have hd0 : w1.cell? ⟨g1, 0, none⟩ = some (.string d) := hG1.at_ 0 rfl
    have hd1 : w1.cell? ⟨gh, 1, none⟩ = some (.map (some gc)) := (hb1.cell (p := ⟨gh, 1, none⟩) hgh).trans c1
    have KF : Hid (∀ w', Below w1.heap.size w1 w' → w'.cell? ⟨g1, 0, none⟩ = some (.string d) ∧ w'.cell? ⟨gh, 1, none⟩ = some (.map (some gc)) ∧ (Instr.lookup 107 (.map (some gc)) (.string d) false).run Tryz.prog w' = .ok (.pointer (some ⟨g, 0, none⟩)) w') := fun w' hb => ⟨(hb.cell (p := ⟨g1, 0, none⟩) hG1.lt).trans hd0, (hb.cell (p := ⟨gh, 1, none⟩) (by have := HB1.out.size; show gh < _; omega)).trans hd1, HL2.out w' (HB1.out.trans (hb.mono HB1.out.size))⟩
    have HG1 := Lib.hid hG1
    have HGE1 := Lib.hid hge1
    clear hb1 hgr1 c1 hd0 hd1 hge1
    refine De.region_chain (fun w' => w'.cell? ⟨g1, 0, none⟩ = some (.string d) ∧ w'.cell? ⟨gh, 1, none⟩ = some (.map (some gc)) ∧ (Instr.lookup 107 (.map (some gc)) (.string d) false).run Tryz.prog w' = .ok (.pointer (some ⟨g, 0, none⟩)) w') (fun w' => w' = w1.drew) 7 8 [8] rfl (by kernel_rfl) (by kernel_rfl) (fun w' hw' => ?ji11) rfl ?rd11
    case ji11 => (subst hw'; exact KF.out _ (Below.refl _ _).drew)
    refine De.Rd.read (o := ?o12) (v := ?v12) 0 (by decide) ?q12 (by kernel_rfl) (by kernel_rfl) (by kernel_rfl) ?w12 ?y12 ?h12
    case q12 => (simp only [De.g0, De.g1, De.g2]; rfl)
    case w12 => kernel_rfl
    case y12 => (intro w' hw'; obtain ⟨x1, x2, x3⟩ := hw'; go_simp; (try with_reducible rfl))
    (try simp only [Act.put, De.l0, De.l1, De.l2])
    refine De.Rd.read (o := ?o13) (v := ?v13) 1 (by decide) ?q13 (by kernel_rfl) (by kernel_rfl) (by kernel_rfl) ?w13 ?y13 ?h13
    case q13 => (simp only [De.g0, De.g1, De.g2]; rfl)
    case w13 => kernel_rfl
    case y13 => (intro w' hw'; obtain ⟨x1, x2, x3⟩ := hw'; go_simp; (try with_reducible rfl))
    (try simp only [Act.put, De.l0, De.l1, De.l2])
    refine De.Rd.read (o := ?o14) (v := ?v14) 2 (by decide) ?q14 (by kernel_rfl) (by kernel_rfl) (by kernel_rfl) ?w14 ?y14 ?h14
    case q14 => (simp only [De.g0, De.g1, De.g2]; rfl)
    case w14 => kernel_rfl
    case y14 => (intro w' hw'; obtain ⟨x1, x2, x3⟩ := hw'; go_simp; (try with_reducible rfl))
    (try simp only [Act.put, De.l0, De.l1, De.l2])
    refine De.Rd.read (o := ?o15) (v := ?v15) 3 (by decide) ?q15 (by kernel_rfl) (by kernel_rfl) (by kernel_rfl) ?w15 ?y15 ?h15
    case q15 => (simp only [De.g0, De.g1, De.g2]; rfl)
    case w15 => kernel_rfl
    case y15 => (intro w' hw'; obtain ⟨x1, x2, x3⟩ := hw'; go_simp; (try with_reducible rfl))
    (try simp only [Act.put, De.l0, De.l1, De.l2])
    refine De.Rd.read (o := ?o16) (v := ?v16) 4 (by decide) ?q16 (by kernel_rfl) (by kernel_rfl) (by kernel_rfl) ?w16 ?y16 ?h16
    case q16 => (simp only [De.g0, De.g1, De.g2]; rfl)
    case w16 => kernel_rfl
    case y16 => (intro w' hw'; obtain ⟨x1, x2, x3⟩ := hw'; go_simp; (try with_reducible rfl))
    (try simp only [Act.put, De.l0, De.l1, De.l2])
    refine De.Rd.read (o := ?o17) (v := ?v17) 5 (by decide) ?q17 (by kernel_rfl) (by kernel_rfl) (by kernel_rfl) ?w17 ?y17 ?h17
    case q17 => (simp only [De.g0, De.g1, De.g2]; rfl)
    case w17 => kernel_rfl
    case y17 => (intro w' hw'; obtain ⟨x1, x2, x3⟩ := hw'; go_simp; (try with_reducible rfl))
    (try simp only [Act.put, De.l0, De.l1, De.l2])
    refine De.Rd.read (o := ?o18) (v := ?v18) 6 (by decide) ?q18 (by kernel_rfl) (by kernel_rfl) (by kernel_rfl) ?w18 ?y18 ?h18
    case q18 => (simp only [De.g0, De.g1, De.g2]; rfl)
    case w18 => kernel_rfl
    case y18 => (intro w' hw'; obtain ⟨x1, x2, x3⟩ := hw'; go_simp; (try with_reducible rfl))
    (try simp only [Act.put, De.l0, De.l1, De.l2])
    refine De.Rd.tail (fun w' hw' => ?_)
    subst hw'
    (try simp only [Act.put, De.l0, De.l1, De.l2])
    (try refine De.MidP.tail ?_)
    refine De.Tl.write (o := ?o19) (by kernel_rfl) ?q19 ?g19 ?h19
    case q19 => (simp only [De.g0, De.g1, De.g2]; rfl)
    case g19 => rfl
    refine wp_alloc_one 98 (.pointer none) rfl zero_ptr rfl ?_
    intro w2 g2 hG2 hgr2 hge2
    have hb2 : Below w1.heap.size w1 w2 := (Below.refl _ _).drew.trans (below_grown hgr2)
    refine ⟨⟨_, rfl⟩, fun _ => KF.out _ hb2, ?_⟩
    have c2 : w2.cell? ⟨g2, 0, none⟩ = some (.pointer none) := hG2.at_ 0 rfl
    have f2 := hG2.frozen 0
    (try simp only [Act.put, De.l0, De.l1, De.l2])
    (try refine De.MidP.tail ?_)
    refine De.Tl.write (o := ?o20) (by kernel_rfl) ?q20 ?g20 ?h20
    case q20 => (simp only [De.g0, De.g1, De.g2]; rfl)
    case g20 => rfl
    refine wp_setcell 98 _ _ rfl g2 0 (.pointer (some ⟨g, 0, none⟩)) rfl rfl (by go_simp) ?_
    refine ⟨⟨_, rfl⟩, fun h => absurd rfl h, ?_⟩
    (try refine De.MidP.tail ?_)
    refine De.Tl.done (by kernel_rfl) ?_
    (try simp only [Act.put, De.l0, De.l1, De.l2])
    have hge2' : w1.heap.size ≤ g2 := hge2
    have hb3 : Below w1.heap.size w1 (w2.setCell ⟨g2, 0, none⟩ (.pointer (some ⟨g, 0, none⟩))) := hb2.setCell hge2' _
    obtain ⟨w3, hw3⟩ : ∃ y, y = w2.setCell ⟨g2, 0, none⟩ (.pointer (some ⟨g, 0, none⟩)) := ⟨_, rfl⟩
    rw [← hw3] at hb3 ⊢
    have hG23 : Blk w3 g2 98 #[.pointer (some ⟨g, 0, none⟩)] := by rw [hw3]; exact hG2.set_ 0 _
    have c3 : w3.cell? ⟨g2, 0, none⟩ = some (.pointer (some ⟨g, 0, none⟩)) := hG23.at_ 0 rfl
    have hb03 := HB1.out.trans (hb3.mono HB1.out.size)
    have hB3 := HBC.out.callee hb03
    have e3 : w3.cell? ⟨g, 2, none⟩ = some (.bool sh) := (hb03.cell (p := ⟨g, 2, none⟩) hgl).trans e2
    have f3 : w3.frozen? ⟨g, 2, none⟩ = false := hB3.frozen 2
    have hG13 := HG1.out.callee hb3
    have c13 : w3.cell? ⟨g1, 1, none⟩ = some (.bool b) := hG13.at_ 1 rfl
    have HB03 := Lib.hid hb03
    have HG23 := Lib.hid hG23
    have HG13 := Lib.hid hG13
    have HB3 := Lib.hid hB3
    have HNL : Hid (w.heap.size ≤ g1 ∧ w.heap.size ≤ g2) := ⟨HGE1.out, Nat.le_trans HB1.out.size hge2'⟩
    have HN1 : Hid (g1 ≠ g ∧ g2 ≠ g) := ⟨fun e => by have := HGE1.out; omega, fun e => by have := HB1.out.size; omega⟩
    clear hw3 hb3 c2 f2 hG2 hgr2 hb2 hb03 hB3 hG13 hG23 hge2 hge2' e2 hG1 KF HB1
    have HYES : Hid (∀ w6, w6 = w3.setCell ⟨g, 2, none⟩ (.bool b) → sh = !b → Po (.returned (.tuple #[.func (.func 247) #[] #[.pointer (some ⟨g1, 0, none⟩), .pointer (some ⟨g2, 0, none⟩)], .int .i64 0])) w6) := by
      rintro w6 hw6 hsb
      have hd : doP S (.lock d b) = (0, S.set d { c with shut := b }) := by
        rw [HDO.out, HSH.out, hsb]
        cases b <;> rfl
      rw [← HPO.out, hd]
      have H := HH.out
      have st6 : ∀ i, i ≠ g → w6.heap[i]? = w3.heap[i]? := fun i hi => by rw [hw6]; exact Below.heap_setCell w3 ⟨g, 2, none⟩ _ i hi
      have hB6 : Blk w6 g 103 (chestV (V (.sizes d)) (V (.stock d)) (V (.outs d)) { c with shut := b }) := by rw [hw6]; exact HB3.out.set_ 2 _
      have hsz6 : w6.heap.size = w3.heap.size := by rw [hw6]; simp
      have hall : ∀ i, i ≠ g → i < w.heap.size → w6.heap[i]? = w.heap[i]? := fun i h1 h2 => (st6 i h1).trans (HB03.out.block i h2)
      have H6 := lock_set H HLKD.out HG.out hall hB6
      have hx6 : w6.os = w3.os ∧ w6.tape = w3.tape ∧ w6.output = w3.output := by rw [hw6]; exact ⟨rfl, rfl, rfl⟩
      have hF : Frm (Foot V) w (Foot V) w6 := ⟨hx6.1.trans HB03.out.os, hx6.2.1.trans HB03.out.tape, hx6.2.2.trans HB03.out.output, by rw [hsz6]; exact HB03.out.size, fun i hi hn => hall i (fun e => hn ⟨.chest d, by rw [e]; exact HBG.out⟩) hi, fun i h => Or.inl h⟩
      refine Or.inr ⟨rfl, _, _, V, rfl, H6, rfl, hF, enters_of Tryz.func247 (by kernel_rfl) rfl, fun w'' hb'' => ?_⟩
      have h1 : Blk w'' g1 218 #[.string d, .bool b] := by
        have hq : Blk w6 g1 218 #[.string d, .bool b] := (st6 g1 HN1.out.1).trans HG13.out
        exact (hb''.block g1 hq.lt (Or.inl HNL.out.1)).trans hq
      have h2 : Blk w'' g2 98 #[.pointer (some ⟨g, 0, none⟩)] := by
        have hq : Blk w6 g2 98 #[.pointer (some ⟨g, 0, none⟩)] := (st6 g2 HN1.out.2).trans HG23.out
        exact (hb''.block g2 hq.lt (Or.inl HNL.out.2)).trans hq
      refine (lock_undo h1 h2 ((hb''.block g hB6.lt (Or.inr ⟨.chest d, HBG.out⟩)).trans hB6) (u := .bool b) rfl).mono ?_
      rintro e w9 ⟨rfl, hB9, hgr⟩
      have hlk : lk d (S.set d { c with shut := b }).chests = some { c with shut := b } := by
        show lk d (setA d _ S.chests) = _
        rw [lk_setA HLKD.out, if_pos rfl]
      have hcs : ({ ({ c with shut := b } : Chest) with shut := !b } : Chest) = c := by
        have : c.shut = !b := HSH.out.trans hsb
        cases c
        simp_all
      have H9 := lock_set (b := !b) (H6.later hb'' hF.foot) hlk HG.out (fun i h1 h2 => hgr.block i h2 (fun e => h1 (by injection e))) (w' := w9) (by exact hB9)
      rw [hcs, set_back HLKD.out] at H9
      refine ⟨rfl, V, H9, rfl, hgr.os, hgr.tape, hgr.output, hgr.size, fun i hi hn => hgr.block i (Nat.lt_of_lt_of_le hi (Nat.le_trans hF.size hb''.size)) (fun e => hn ⟨.chest d, by injection e with e; rw [e]; exact HBG.out⟩), fun i h => Or.inl h⟩
    have HNO : Hid (∀ (R : Int), (R = 20 ∧ sh = true ∧ b = true) ∨ (R = 21 ∧ sh = false ∧ b = false) → Po (.returned (.tuple #[.nilFunc, .int .i64 R])) w3) := by
      rintro R (⟨rfl, h1, h2⟩ | ⟨rfl, h1, h2⟩)
      · exact HP.out _ _ 20 (by decide) (by rw [HDO.out, HSH.out, h1, h2]; rfl) rfl HB03.out
      · exact HP.out _ _ 21 (by decide) (by rw [HDO.out, HSH.out, h1, h2]; rfl) rfl HB03.out
    clear HP HPO HH HBC HLKD HG HDO HVV HSH HL2 HG1 HBG HB3
    cases sh with
    | true =>
      cases b with
      | true =>
        go_wp2_with (fail)
        exact HNO.out 20 (by simp)
      | false =>
        go_wp2_with (fail)
        exact HYES.out _ rfl rfl
    | false =>
      cases b with
      | true =>
        go_wp2_with (fail)
        exact HYES.out _ rfl rfl
      | false =>
        go_wp2_with (fail)
        exact HNO.out 21 (by simp)
end
end Dr
end Go.Proofs.YtbgakdpbglpfaaaGreatDoor
