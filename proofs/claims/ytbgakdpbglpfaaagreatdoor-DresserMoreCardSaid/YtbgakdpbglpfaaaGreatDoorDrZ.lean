/- An order that is filled: ordering.do. -/
import Derived.Test.YtbgakdpbglpfaaaGreatDoorJdy
import Derived.Laws.EntriesVeiled
namespace Go.Proofs.YtbgakdpbglpfaaaGreatDoor
open Go.RowKit
namespace Dr
open Bu (natI)
set_option linter.unusedSimpArgs false
theorem wpList_alloc_one {P : Program} {w : World} {ops : Array Oper} {rest : List Oper} {o : Oper} {a : Act} {Q : Exit → Act → World → Prop} (hgd : o.guard = none) (ty : TypeId) (z : Value) (ho : o.op = .alloc ty) (hz : ∀ w : World, (zeroValue ty).run P w = .ok z w) (hc : z.cells = #[z])
    (h : ∀ (w' : World) (g : Nat), Blk w' g ty #[z] → w.grownBy w' none → w.heap.size ≤ g → wpList P ops Q rest (a.put o.dst (.pointer (some ⟨g, 0, none⟩))) w') : wpList P ops Q (o :: rest) a w :=
  wpList_plain hgd fun _ hK => wp_alloc_one ty z ho hz hc fun w' g h1 h2 h3 => hK _ _ (h w' g h1 h2 h3)
theorem zero_func (w : World) : (zeroValue 1).run Tryz.prog w = .ok .nilFunc w := Tryz.zeroValue1 w
/-- the stock, the first i packets' sizes paid out -/
def ordS (ms l : List Nat) (i : Nat) : List Nat := List.zipWith (· - ·) (ms.take i) (l.take i) ++ ms.drop i
theorem ordS_zero (ms l : List Nat) : ordS ms l 0 = ms := by simp [ordS]
theorem ordS_at {ms l : List Nat} (hl : l.length = ms.length) {i : Nat} (hi : i ≤ ms.length) : (ordS ms l i)[i]? = ms[i]? := by
  unfold ordS
  have : (List.zipWith (· - ·) (ms.take i) (l.take i)).length = i := by simp [hl]; omega
  rw [List.getElem?_append_right (by omega), this, Nat.sub_self, List.getElem?_drop, Nat.add_zero]
theorem ordS_len {ms l : List Nat} (hl : l.length = ms.length) {i : Nat} (hi : i ≤ ms.length) : (ordS ms l i).length = ms.length := by simp [ordS, hl]; omega
theorem ordS_next {ms l : List Nat} (hl : l.length = ms.length) {i x k : Nat} (hx : ms[i]? = some x) (hk : l[i]? = some k) : (ordS ms l i).set i (x - k) = ordS ms l (i + 1) := by
  obtain ⟨h1, e1⟩ := List.getElem?_eq_some_iff.1 hx
  obtain ⟨h2, e2⟩ := List.getElem?_eq_some_iff.1 hk
  unfold ordS
  have hz : (List.zipWith (· - ·) (ms.take i) (l.take i)).length = i := by simp [hl]; omega
  rw [List.set_append_right _ _ (by omega), hz, Nat.sub_self, List.drop_eq_getElem_cons h1, List.set_cons_zero, List.take_succ_eq_append_getElem h1, List.take_succ_eq_append_getElem h2, e1, e2, List.zipWith_append (by simp; omega)]
  simp
theorem ordS_end {ms l : List Nat} (hl : l.length = ms.length) : ordS ms l ms.length = List.zipWith (· - ·) ms l := by
  unfold ordS
  rw [List.drop_length, List.append_nil, List.take_length, ← hl, List.take_length]
theorem packs_next {ss l : List Nat} {i s k : Nat} (hs : ss[i]? = some s) (hk : l[i]? = some k) : packsP (ss.take (i + 1)) (l.take (i + 1)) = packsP (ss.take i) (l.take i) ++ List.replicate k s := by
  obtain ⟨h1, e1⟩ := List.getElem?_eq_some_iff.1 hs
  obtain ⟨h2, e2⟩ := List.getElem?_eq_some_iff.1 hk
  unfold packsP
  rw [List.take_succ_eq_append_getElem h1, List.take_succ_eq_append_getElem h2, e1, e2, List.zip_append (by simp; omega), List.flatMap_append]
  simp
theorem flat_len : ∀ ps : List (Nat × Nat), (∀ p ∈ ps, p.2 ≤ 40) → (ps.flatMap fun p => List.replicate p.2 p.1).length ≤ 40 * ps.length
  | [], _ => by simp
  | p :: ps, h => by
    have h1 := flat_len ps fun q hq => h q (by simp [hq])
    have h2 := h p (by simp)
    rw [List.flatMap_cons, List.length_append, List.length_replicate, List.length_cons]
    omega
theorem packs_len {ss l : List Nat} (h5 : ss.length ≤ 5) (hl : ∀ x ∈ l, x ≤ 40) (i : Nat) : (packsP (ss.take i) (l.take i)).length ≤ 200 := by
  have h := flat_len ((ss.take i).zip (l.take i)) fun p hp => hl _ (List.mem_of_mem_take (List.of_mem_zip hp).2)
  have h2 : ((ss.take i).zip (l.take i)).length ≤ 5 := by
    rw [List.length_zip, List.length_take]
    omega
  unfold packsP
  omega
theorem wpList_setcell {P : Program} {w : World} {ops : Array Oper} {rest : List Oper} {o : Oper} {a : Act} {Q : Exit → Act → World → Prop} (hgd : o.guard = none) (ty : TypeId) (x y : Operand) (ho : o.op = .store ty x y) (g i : Nat) (v : Value) (hx : a.eval x = .pointer (some ⟨g, i, none⟩)) (hy : a.eval y = v)
    (hr : (Instr.storeAt ty (.pointer (some ⟨g, i, none⟩)) v).run P w = .ok () (w.setCell ⟨g, i, none⟩ v))
    (h : wpList P ops Q rest (a.put o.dst undef) (w.setCell ⟨g, i, none⟩ v)) : wpList P ops Q (o :: rest) a w :=
  wpList_plain hgd fun _ hK => wp_setcell ty x y ho g i v hx hy hr (hK _ _ h)
section
variable {P : Program} {w : World} {o : Oper} {a : Act} {K : Act → World → Prop} {Q : Exit → Act → World → Prop}
theorem wp_mapentry (t k e : TypeId) (m x : Operand) (ho : o.op = .mapEntry t m x) (ht : P.underlying t = some (.map k e)) (hk : P.underlying k = some .string) {z : Value} (hz : ∀ w, (zeroValue e).run P w = .ok z w) (b : Nat) (f : ByteArray → Option Value) (s : ByteArray) (hs : f s = none)
    (hm : a.eval m = .map (some b)) (hx : a.eval x = .string s) (hM : MapS w b f)
    (h : ∀ (w' : World) (st : Nat), MapE w' b (fun q => if q = s then some z else f q) s st → w.grownBy w' (some b) → K (a.put o.dst (.tuple #[z, goInt st])) w') : o.wp P a w K Q := by
  obtain ⟨w', st, hr, h1, h2⟩ := hM.entry ht hk hz s hs
  unfold Oper.wp execOp
  simp only [ho, hm, hx, Sem.run_bind, hr, Result.andThen_ok, Sem.run_pure, Oper.upon_value]
  exact h w' st h1 h2
theorem wp_entrystore (t : TypeId) (m y x : Operand) (ho : o.op = .entryStore t m y x) (b : Nat) (f : ByteArray → Option Value) (s : ByteArray) (st : Nat) (v : Value)
    (hm : a.eval m = .map (some b)) (hy : a.eval y = goInt st) (hx : a.eval x = v) (hM : MapE w b f s st)
    (h : ∀ w' : World, MapS w' b (fun q => if q = s then some v else f q) → w.grownBy w' (some b) → K (a.put o.dst undef) w') : o.wp P a w K Q := by
  obtain ⟨w', hr, h1, h2⟩ := hM.store (P := P) (t := t) v
  unfold Oper.wp execOp
  simp only [ho, hm, hy, hx, Sem.run_bind, hr, Result.andThen_ok, Sem.run_pure, Oper.upon_skip]
  exact h w' h1 h2
end
/-- outside of two blocks nothing has turned -/
def FarB (W wr : World) (a b : Nat) : Prop := ∀ j, j < W.heap.size → j ≠ a → j ≠ b → wr.heap[j]? = W.heap[j]?
theorem info_parcel : (Tryz.prog.info? 105).map (·.size) = some 2 := by kernel_rfl
section
variable {w : World} {V : Vals} {S : House}
set_option maxRecDepth 100000 in
set_option maxHeartbeats 4000000 in
theorem ordering_yes (H : HouseAt w V S) (hS : Oks S) (o d : ByteArray) (n : Nat) (hn : n ≤ 1000) (hu : hasB o S.used = false) (hno : lk o S.out = none) {c : Chest} (hk : lk d S.chests = some c) (hs : c.shut = false) (hor : openR V S d = .tuple #[V (.chest d), .int .i64 0]) {l : List Nat} (hf : fillP c.sizes c.stock n = some l) :
    Calls Tryz.prog 229 #[.agg #[.string o, .string d, .int .i64 (n : Int)], V .house] w (DoPost V S w (doP S (.order o d n))) := by
  have hco := hS d c hk
  obtain ⟨⟨g, hg, hB⟩, hsz, hst, hou⟩ := H.ch d c hk
  obtain ⟨hll, hlm⟩ := fillP_some hf hco.len
  have hne : 0 < c.sizes.length := by
    rcases Nat.eq_zero_or_pos c.sizes.length with h | h
    · rw [fillP, List.eq_nil_of_length_eq_zero h] at hf
      simp at hf
    · exact h
  have HOP : Hid (∀ w', Below w.heap.size w w' → Calls Tryz.prog 216 #[V .house, .string d] w' fun e w2 => w2 = w' ∧ e = .returned (.tuple #[.pointer (some ⟨g, 0, none⟩), .int .i64 0])) := fun w' hb => by
    have h := open_any (H.callee hb) d
    rw [hor, hg] at h
    exact h
  have HFI : Hid (∀ w', Below w.heap.size w w' → Calls Tryz.prog 230 #[V (.sizes d), V (.stock d), .int .i64 (n : Int)] w' fun e w2 => (∃ v, e = .returned (.tuple #[v, .int .i64 0]) ∧ NewN w' w2 v l) ∧ Below w'.heap.size w' w2) := fun w' hb => by
    have h := fill_any hco (OwnI.callee hsz hb) (OwnI.callee hst hb) n hn
    rw [hf] at h
    refine h.mono ?_
    rintro e w2 ⟨⟨v, E, rfl, rfl, h1⟩, h2⟩
    exact ⟨⟨v, rfl, h1⟩, h2⟩
  have HCH : Hid (∀ w', Below w.heap.size w w' → Calls Tryz.prog 209 #[.pointer (some ⟨g, 0, none⟩)] w' fun e w4 => ∃ g1 g2 ws wk wo, e = .returned (.func (.func 219) #[] #[.pointer (some ⟨g2, 0, none⟩), .pointer (some ⟨g1, 0, none⟩)]) ∧ Kept w' w4 g g1 g2 ws wk wo c) := fun w' hb => by
    have h := ((H.callee hb).ch d c hk)
    rw [hg] at h
    exact change_any (by have := hco.five; omega) (by have := hco.five; have := hco.len; omega) (by have := hco.outl; omega) h
  obtain ⟨gh, hV, hBh⟩ := H.hs
  obtain ⟨gu, hVu, _⟩ := H.mu
  have HLK : Hid (∀ (w' : World), Below w.heap.size w w' → (Instr.lookup 109 (.map (some gu)) (.string o) false).run Tryz.prog w' = .ok (.bool false) w') := fun w' hb => by
    have h := H.lookU (fun g hg => hb.block g (H.lt hg)) hVu o
    rw [hu] at h
    exact h
  have c1 : w.cell? ⟨gh, 3, none⟩ = some (.map (some gu)) := by rw [← hVu]; exact hBh.cell 3
  have hgh := hBh.lt
  have hgl := hB.lt
  obtain ⟨A, cc, hVs, hcc1, hcc2, _, hAn⟩ := ownN_form hsz
  obtain ⟨B, ck, hVk, hck1, hck2, _, hBn⟩ := ownN_form hst
  obtain ⟨gs, rfl⟩ := hAn hne
  obtain ⟨gk, rfl⟩ := hBn (by rw [hco.len]; exact hne)
  rw [hV] at HOP ⊢
  have HVH := Lib.hid hV
  generalize hPo : DoPost V S w (doP S (.order o d n)) = Po
  have HPO := Lib.hid hPo
  have HH := Lib.hid H
  have HCO := Lib.hid hco
  have HG := Lib.hid hg
  have HKC := Lib.hid hk
  have HU := Lib.hid hu
  have HNO := Lib.hid hno
  have HSH := Lib.hid hs
  have HFL := Lib.hid hf
  have HLM := Lib.hid hlm
  have HBB := Lib.hid hB
  rw [hco.len] at hVk hck1
  obtain ⟨ns, hns⟩ : ∃ ns, c.sizes.length = ns := ⟨_, rfl⟩
  rw [hns] at hVs hVk hcc1 hck1 hll hne
  have HNS := Lib.hid hns
  have HVS := Lib.hid hVs
  have HVK := Lib.hid hVk
  have HLL := Lib.hid hll
  rw [hVs, hVk] at HBB HFI
  have h5 : ns ≤ 5 := by rw [← hns]; exact hco.five
  unfold maxLen at hcc2
  clear hPo hV hB hBh H hu hVu hk hs hor hf hS hco hg hsz hst hou hVs hVk hno hns hll hlm hck2 hAn hBn
  go_enter Tryz.func229, Tryz.ntmps229
  go_wp2_with (first
    | (with_reducible show wpList _ _ _ (⟨_, .box 212 _, _, _, _, _⟩ :: _) _ _
       refine wpList_box_cells rfl 212 _ rfl (.agg #[.string o, .string d, .int .i64 (n : Int)]) #[.string o, .string d, .int .i64 (n : Int)] rfl rfl ?_
       intro w1 g1 hG1 hgr1 hge1
       have hb1 := below_grown hgr1)
    | (with_reducible show wpList _ _ _ (⟨_, .box 37 _, _, _, _, _⟩ :: _) _ _
       refine wpList_box_cells rfl 37 _ rfl (.pointer (some ⟨gh, 0, none⟩)) #[.pointer (some ⟨gh, 0, none⟩)] rfl rfl ?_
       intro w2 g2 hG2 hgr2 hge2
       have hb12 := below_grown hgr2
       have hb2 := hb1.trans (hb12.mono hb1.size)
       have HG1 := Lib.hid (Blk.callee hG1 hb12)
       have HG2 := Lib.hid hG2
       have HE1 : Hid (w.heap.size ≤ g1 ∧ w.heap.size ≤ g2 ∧ g1 < g2) := ⟨hge1, Nat.le_trans hb1.size hge2, by have := hG1.lt; omega⟩
       have d0 : w2.cell? ⟨g1, 0, none⟩ = some (.string o) := (Blk.callee hG1 hb12).at_ 0 rfl
       have d01 : w2.cell? ⟨g1, 1, none⟩ = some (.string d) := (Blk.callee hG1 hb12).at_ 1 rfl
       have d1 : w2.cell? ⟨g2, 0, none⟩ = some (.pointer (some ⟨gh, 0, none⟩)) := hG2.at_ 0 rfl
       have d2 : w2.cell? ⟨gh, 3, none⟩ = some (.map (some gu)) := (hb2.cell (p := ⟨gh, 3, none⟩) hgh).trans c1
       have d4 := fun q => HLK.out (w2.drewN q) (below_drewN hb2 q)))
  have HB2 := Lib.hid hb2
  clear hb1 hgr1 hb12 hgr2 hb2 c1 hG1 hG2 hge1 hge2
  go_quiet (fail)
  go_wp2_with (go_at_call 216; (with_reducible refine (HOP.out _ (below_drewN HB2.out _)).mono ?_); rintro e w3 ⟨hw3, rfl⟩; replace hw3 := hw3.symm; subst hw3)
  have HB3 : Hid (Below w.heap.size w (w2.drewN nq)) := below_drewN HB2.out _
  have KF : Hid ((w2.drewN nq).cell? ⟨g, 0, none⟩ = some (.slice (some ⟨gs, 0, none⟩) ns cc) ∧ (w2.drewN nq).cell? ⟨g, 1, none⟩ = some (.slice (some ⟨gk, 0, none⟩) ns ck) ∧ (w2.drewN nq).cell? ⟨g1, 2, none⟩ = some (.int .i64 (n : Int))) :=
    ⟨(HBB.out.callee HB3.out).at_ 0 rfl, (HBB.out.callee HB3.out).at_ 1 rfl, HG1.out.at_ 2 rfl⟩
  clear d0 d01 d1 d2 d4
  refine De.region_tree (fun b w' => bif b then (True) else (w'.cell? ⟨g, 0, none⟩ = some (.slice (some ⟨gs, 0, none⟩) ns cc) ∧ w'.cell? ⟨g, 1, none⟩ = some (.slice (some ⟨gk, 0, none⟩) ns ck) ∧ w'.cell? ⟨g1, 2, none⟩ = some (.int .i64 (n : Int)))) 10 1 (by kernel_rfl) (by kernel_rfl) (by decide) KF.out ?_
  (try simp only [Act.put, De.l0, De.l1, De.l2])
  refine De.MidT.read (o := ?o1) (v := ?v1) 0 (by decide) ?q1 (by kernel_rfl) (by kernel_rfl) ?w1 (by kernel_rfl) ?y1 ?h1
  case q1 => (simp only [De.g0, De.g1, De.g2]; rfl)
  case w1 => kernel_rfl
  case y1 => (intro w' hw'; obtain ⟨x1, x2, x3⟩ := hw'; go_simp; (try with_reducible rfl))
  (try simp only [Act.put, De.l0, De.l1, De.l2])
  refine De.MidT.read (o := ?o2) (v := ?v2) 1 (by decide) ?q2 (by kernel_rfl) (by kernel_rfl) ?w2 (by kernel_rfl) ?y2 ?h2
  case q2 => (simp only [De.g0, De.g1, De.g2]; rfl)
  case w2 => kernel_rfl
  case y2 => (intro w' hw'; obtain ⟨x1, x2, x3⟩ := hw'; go_simp; (try with_reducible rfl))
  (try simp only [Act.put, De.l0, De.l1, De.l2])
  refine De.MidT.read (o := ?o3) (v := ?v3) 2 (by decide) ?q3 (by kernel_rfl) (by kernel_rfl) ?w3 (by kernel_rfl) ?y3 ?h3
  case q3 => (simp only [De.g0, De.g1, De.g2]; rfl)
  case w3 => kernel_rfl
  case y3 => (intro w' hw'; obtain ⟨x1, x2, x3⟩ := hw'; go_simp; (try with_reducible rfl))
  (try simp only [Act.put, De.l0, De.l1, De.l2])
  refine De.MidT.read (o := ?o4) (v := ?v4) 3 (by decide) ?q4 (by kernel_rfl) (by kernel_rfl) ?w4 (by kernel_rfl) ?y4 ?h4
  case q4 => (simp only [De.g0, De.g1, De.g2]; rfl)
  case w4 => kernel_rfl
  case y4 => (intro w' hw'; obtain ⟨x1, x2, x3⟩ := hw'; go_simp; (try with_reducible rfl))
  (try simp only [Act.put, De.l0, De.l1, De.l2])
  refine De.MidT.read (o := ?o5) (v := ?v5) 4 (by decide) ?q5 (by kernel_rfl) (by kernel_rfl) ?w5 (by kernel_rfl) ?y5 ?h5
  case q5 => (simp only [De.g0, De.g1, De.g2]; rfl)
  case w5 => kernel_rfl
  case y5 => (intro w' hw'; obtain ⟨x1, x2, x3⟩ := hw'; go_simp; (try with_reducible rfl))
  (try simp only [Act.put, De.l0, De.l1, De.l2])
  refine De.MidT.read (o := ?o6) (v := ?v6) 5 (by decide) ?q6 (by kernel_rfl) (by kernel_rfl) ?w6 (by kernel_rfl) ?y6 ?h6
  case q6 => (simp only [De.g0, De.g1, De.g2]; rfl)
  case w6 => kernel_rfl
  case y6 => (intro w' hw'; obtain ⟨x1, x2, x3⟩ := hw'; go_simp; (try with_reducible rfl))
  (try simp only [Act.put, De.l0, De.l1, De.l2])
  refine De.MidT.read (o := ?o7) (v := ?v7) 6 (by decide) ?q7 (by kernel_rfl) (by kernel_rfl) ?w7 (by kernel_rfl) ?y7 ?h7
  case q7 => (simp only [De.g0, De.g1, De.g2]; rfl)
  case w7 => kernel_rfl
  case y7 => (intro w' hw'; obtain ⟨x1, x2, x3⟩ := hw'; go_simp; (try with_reducible rfl))
  (try simp only [Act.put, De.l0, De.l1, De.l2])
  refine De.MidT.read (o := ?o8) (v := ?v8) 7 (by decide) ?q8 (by kernel_rfl) (by kernel_rfl) ?w8 (by kernel_rfl) ?y8 ?h8
  case q8 => (simp only [De.g0, De.g1, De.g2]; rfl)
  case w8 => kernel_rfl
  case y8 => (intro w' hw'; obtain ⟨x1, x2, x3⟩ := hw'; go_simp; (try with_reducible rfl))
  (try simp only [Act.put, De.l0, De.l1, De.l2])
  refine De.MidT.read (o := ?o9) (v := ?v9) 8 (by decide) ?q9 (by kernel_rfl) (by kernel_rfl) ?w9 (by kernel_rfl) ?y9 ?h9
  case q9 => (simp only [De.g0, De.g1, De.g2]; rfl)
  case w9 => kernel_rfl
  case y9 => (intro w' hw'; obtain ⟨x1, x2, x3⟩ := hw'; go_simp; (try with_reducible rfl))
  (try simp only [Act.put, De.l0, De.l1, De.l2])
  refine De.MidT.read (o := ?o10) (v := ?v10) 9 (by decide) ?q10 (by kernel_rfl) (by kernel_rfl) ?w10 (by kernel_rfl) ?y10 ?h10
  case q10 => (simp only [De.g0, De.g1, De.g2]; rfl)
  case w10 => kernel_rfl
  case y10 => (intro w' hw'; obtain ⟨x1, x2, x3⟩ := hw'; go_simp; (try with_reducible rfl))
  (try simp only [Act.put, De.l0, De.l1, De.l2])
  (try refine De.MidT.tail ?_)
  refine De.Tr.one (i := 10) (o := ?o11) (by kernel_rfl) ?q11 ?g11 ?h11
  case q11 => (simp only [De.g0, De.g1, De.g2]; rfl)
  case g11 => rfl
  refine wp_enterK 230 #[.slice (some ⟨gs, 0, none⟩) ns cc, .slice (some ⟨gk, 0, none⟩) ns ck, .int .i64 (n : Int)] (by go_simp) (HFI.out _ HB3.out.drew) ?_
  rintro e w4 ⟨⟨v, rfl, hNL⟩, hb4⟩
  refine ⟨_, rfl, ⟨_, rfl⟩, trivial, ?_⟩
  have HB4 : Hid (Below w.heap.size w w4) := HB3.out.drew.trans (hb4.mono HB3.out.drew.size)
  have HG14 : Hid (Blk w4 g1 212 #[.string o, .string d, .int .i64 (n : Int)]) := Blk.callee (w := (w2.drewN nq).drew) HG1.out hb4
  have HG24 : Hid (Blk w4 g2 37 #[.pointer (some ⟨gh, 0, none⟩)]) := Blk.callee (w := (w2.drewN nq).drew) HG2.out hb4
  obtain ⟨Al, cl, hvl, _, _, _, hAl⟩ := ownN_form hNL.1
  obtain ⟨gl, rfl⟩ := hAl (by rw [HLL.out]; exact hne)
  rw [HLL.out] at hvl
  subst hvl
  have HNL : Hid (NewN w w4 (.slice (some ⟨gl, 0, none⟩) ns cl) l) := ⟨hNL.1, fun k hk => Nat.le_trans HB3.out.size (hNL.2 k hk)⟩
  clear hb4 hNL hAl
  (try simp only [Act.put, De.l0, De.l1, De.l2])
  refine De.MidT.read2 (o := ?o12) (v := ?v12) 11 (by decide) ?q12 (by kernel_rfl) (by kernel_rfl) ?w12 ?y12 ?h12
  case q12 => (simp only [De.g0, De.g1, De.g2]; rfl)
  case w12 => kernel_rfl
  case y12 => (intro b w' hw'; clear hw'; go_simp; (try with_reducible rfl))
  (try simp only [Act.put, De.l0, De.l1, De.l2])
  refine De.MidT.read2 (o := ?o13) (v := ?v13) 12 (by decide) ?q13 (by kernel_rfl) (by kernel_rfl) ?w13 ?y13 ?h13
  case q13 => (simp only [De.g0, De.g1, De.g2]; rfl)
  case w13 => kernel_rfl
  case y13 => (intro b w' hw'; clear hw'; go_simp; (try with_reducible rfl))
  (try simp only [Act.put, De.l0, De.l1, De.l2])
  refine De.MidT.read2 (o := ?o14) (v := ?v14) 13 (by decide) ?q14 (by kernel_rfl) (by kernel_rfl) ?w14 ?y14 ?h14
  case q14 => (simp only [De.g0, De.g1, De.g2]; rfl)
  case w14 => kernel_rfl
  case y14 => (intro b w' hw'; clear hw'; go_simp; (try with_reducible rfl))
  (try simp only [Act.put, De.l0, De.l1, De.l2])
  refine De.MidT.read2 (o := ?o15) (v := ?v15) 14 (by decide) ?q15 (by kernel_rfl) (by kernel_rfl) ?w15 ?y15 ?h15
  case q15 => (simp only [De.g0, De.g1, De.g2]; rfl)
  case w15 => kernel_rfl
  case y15 => (intro b w' hw'; clear hw'; go_simp; (try with_reducible rfl))
  (try simp only [Act.put, De.l0, De.l1, De.l2])
  refine De.MidT.read2 (o := ?o16) (v := ?v16) 15 (by decide) ?q16 (by kernel_rfl) (by kernel_rfl) ?w16 ?y16 ?h16
  case q16 => (simp only [De.g0, De.g1, De.g2]; rfl)
  case w16 => kernel_rfl
  case y16 => (intro b w' hw'; clear hw'; go_simp; (try with_reducible rfl))
  (try simp only [Act.put, De.l0, De.l1, De.l2])
  (try refine De.MidT.tail ?_)
  refine De.Tr.done (by kernel_rfl) ?_
  (try simp only [Act.put, De.l0, De.l1, De.l2])
  go_wp2_with (first
    | (go_at_call 209; (with_reducible refine (HCH.out _ HB4.out).mono ?_)
       rintro e w5 ⟨g3, g4, ws, wk, wo, rfl, hK⟩
       have HK := Lib.hid hK
       have HB5 : Hid (Below w.heap.size w w5) := HB4.out.trans (hK.be.mono HB4.out.size)
       have d51 : w5.cell? ⟨g1, 1, none⟩ = some (.string d) := (Blk.callee HG14.out hK.be).at_ 1 rfl)
    | (with_reducible show wpList _ _ _ (⟨_, .alloc 1, _, _, _, _⟩ :: _) _ _
       refine wpList_alloc_one rfl 1 .nilFunc rfl zero_func rfl ?_
       intro w6 g6 hG6 hgr6 hge6
       have c6 : w6.cell? ⟨g6, 0, none⟩ = some .nilFunc := hG6.at_ 0 rfl
       have f6 := hG6.frozen 0
       have d61 : w6.cell? ⟨g1, 1, none⟩ = some (.string d) := (Blk.callee HG14.out (hK.be.trans ((below_grown hgr6).mono hK.be.size))).at_ 1 rfl)
    | (with_reducible show wpList _ _ _ (⟨_, .store 1 _ _, _, _, _, _⟩ :: _) _ _
       refine wpList_setcell rfl 1 _ _ rfl g6 0 (.func (.func 219) #[] #[.pointer (some ⟨g4, 0, none⟩), .pointer (some ⟨g3, 0, none⟩)]) rfl rfl (by go_simp) ?_
       obtain ⟨w7, hw7⟩ : ∃ y, y = w6.setCell ⟨g6, 0, none⟩ (.func (.func 219) #[] #[.pointer (some ⟨g4, 0, none⟩), .pointer (some ⟨g3, 0, none⟩)]) := ⟨_, rfl⟩
       rw [← hw7]
       have HG6 : Hid (Blk w7 g6 1 #[undoF g4 g3]) := by rw [hw7]; exact hG6.set_ 0 _
       have HG6G : Hid (w5.heap.size ≤ g6) := hge6
       have HB57 : Hid (Below w5.heap.size w5 w7) := by rw [hw7]; exact (below_grown hgr6).setCell hge6 _
       have d71 : w7.cell? ⟨g1, 1, none⟩ = some (.string d) := (Blk.callee HG14.out (hK.be.trans (HB57.out.mono hK.be.size))).at_ 1 rfl
       clear hw7 c6 f6 d61 hG6 hgr6)
    | (with_reducible show wpList _ _ _ (⟨_, .alloc 105, _, _, _, _⟩ :: _) _ _
       refine wpList_alloc_blk rfl 105 rfl _ zero_parcel ?_
       intro w8 gp hG8 hgr8 hge8)
    | (with_reducible show wpList _ _ _ (⟨_, .store 105 (.tmp 10) _, _, _, _, _⟩ :: _) _ _
       go_must (refine wpList_store_blk rfl 105 _ _ rfl gp #[.string d, .slice none 0 0] rfl rfl 105 _ hG8 info_parcel rfl (by simp [Value.oneCell']) ?_)
       intro w9 hG9 hgr9))
  have HB8 : Hid (Below w5.heap.size w5 w8) := below_none HB57.out hgr8 HB57.out.size
  have HGE : Hid (w5.heap.size ≤ gp) := Nat.le_trans HB57.out.size hge8
  have HB9 : Hid (Below w5.heap.size w5 w9) := below_some HB8.out hgr9 HB8.out.size HGE.out
  have HB49 : Hid (Below w4.heap.size w4 w9) := HK.out.be.trans (HB9.out.mono HK.out.be.size)
  have HBW : Hid (Below w.heap.size w w9) := HB4.out.trans (HB49.out.mono HB4.out.size)
  have hn6 : g6 < w7.heap.size := HG6.out.lt
  have HG69 : Hid (Blk w9 g6 1 #[undoF g4 g3]) := (hgr9.block g6 (Nat.lt_of_lt_of_le hn6 hgr8.size) (fun e => by injection e with e; omega)).trans ((hgr8.block g6 hn6 (by simp)).trans HG6.out)
  have HG9 := Lib.hid hG9
  have HGPL : Hid (gp < w9.heap.size) := hG9.lt
  have HKP : Hid (gk < w.heap.size) := HH.out.lt ⟨.stock d, by rw [HVK.out]; rfl⟩
  have HGLT : Hid (w.heap.size ≤ gl ∧ gl < w4.heap.size) := ⟨HNL.out.2 gl rfl, ownI_lt HNL.out.1 rfl⟩
  have z45 := HK.out.be.size
  have z4 := HB4.out.size
  have z9 := HB9.out.size
  have KL : Hid (∀ wr, FarB w9 wr gk gp → ∀ (i k : Nat), l[i]? = some k → wr.cell? ⟨gl, i, none⟩ = some (.int .i64 (k : Int))) := fun wr hF i k hik =>
    (ownN_cell (OwnI.same (OwnI.callee HNL.out.1 HB49.out) fun j hj => by
      obtain rfl : gl = j := by injection hj
      have h1 := HGLT.out
      have h2 := HKP.out
      have h3 := HGE.out
      exact hF gl (by omega) (by omega) (by omega)) HLL.out.symm hik).1
  have bgs : blkOf (V (.sizes d)) = some gs := by rw [HVS.out]; rfl
  have bgk : blkOf (V (.stock d)) = some gk := by rw [HVK.out]; rfl
  have bg : blkOf (V (.chest d)) = some g := by rw [HG.out]; rfl
  have hgsl := HH.out.lt ⟨_, bgs⟩
  have hgll := HH.out.lt ⟨_, bg⟩
  have KS : Hid (∀ wr, FarB w9 wr gk gp → ∀ (i s : Nat), c.sizes[i]? = some s → wr.cell? ⟨gs, i, none⟩ = some (.int .i64 (s : Int))) := fun wr hF i s his =>
    (ownN_cell (OwnI.same (OwnI.callee (by rw [← HVS.out]; exact (HH.out.ch d c HKC.out).sizes) HBW.out) fun j hj => by
      obtain rfl : gs = j := by injection hj
      have h3 := HGE.out
      exact hF gs (by omega) (HH.out.ne_ bgs bgk (by simp)) (by omega)) HNS.out.symm his).1
  have KG : Hid (∀ wr, FarB w9 wr gk gp → wr.cell? ⟨g, 0, none⟩ = some (.slice (some ⟨gs, 0, none⟩) ns cc) ∧ wr.cell? ⟨g, 1, none⟩ = some (.slice (some ⟨gk, 0, none⟩) ns ck)) := fun wr hF => by
    have h3 := HGE.out
    have h : Blk wr g _ _ := (hF g (by omega) (HH.out.ne_ bg bgk (by simp)) (by omega)).trans (HBB.out.callee HBW.out)
    exact ⟨h.at_ 0 rfl, h.at_ 1 rfl⟩
  have NKP : Hid (gk ≠ gp ∧ gs < w.heap.size ∧ g < w.heap.size ∧ g ≠ gk) := ⟨by have := HGE.out; have := HKP.out; omega, hgsl, hgll, HH.out.ne_ bg bgk (by simp)⟩
  have HST9 : Hid (OwnN w9 (.slice (some ⟨gk, 0, none⟩) ns ck) c.stock) := OwnI.callee (by rw [← HVK.out]; exact (HH.out.ch d c HKC.out).stock) HBW.out
  clear hgr8 hge8 hgr9 hG9 hG8 d51 d71 hK hn6 z45 z4 z9 bgs bgk bg hgsl hgll hge6
  go_loopw [53] (fun v wr => ∃ (i : Nat) (pv : Value), i ≤ ns ∧ v = .int .i64 (i : Int) ∧ Hid (OwnN wr (.slice (some ⟨gk, 0, none⟩) ns ck) (ordS c.stock l i)) ∧ Hid (Blk wr gp 105 #[.string d, pv]) ∧ Hid (OwnI wr w9.heap.size pv (natI (packsP (c.sizes.take i) (l.take i)))) ∧ Hid (FarB w9 wr gk gp) ∧ Hid (wr.os = w9.os ∧ wr.tape = w9.tape ∧ wr.output = w9.output ∧ w9.heap.size ≤ wr.heap.size)) (fun v _ => ns - (intOf v).toNat)
  case atStart => exact ⟨0, .slice none 0 0, Nat.zero_le _, rfl, by rw [ordS_zero]; exact HST9.out, HG9.out, OwnI.nil _ _, fun _ _ _ _ => rfl, rfl, rfl, rfl, Nat.le_refl _⟩
  case round =>
    obtain ⟨i, pv, hins, rfl, hST, hGP, hPV, hFA, hEX⟩ := hrel
    by_cases hlt : i < ns
    · have hlti : (i : Int) < ns := by omega
      have hi0 : (0 : Int) ≤ i := by omega
      have hLS : l.length = c.stock.length := by rw [HLL.out, HCO.out.len, HNS.out]
      obtain ⟨x, hx⟩ : ∃ x, c.stock[i]? = some x := ⟨_, List.getElem?_eq_getElem (by rw [HCO.out.len, HNS.out]; exact hlt)⟩
      obtain ⟨k, hk⟩ : ∃ k, l[i]? = some k := ⟨_, List.getElem?_eq_getElem (by rw [HLL.out]; exact hlt)⟩
      obtain ⟨s, hs⟩ : ∃ s, c.sizes[i]? = some s := ⟨_, List.getElem?_eq_getElem (by rw [HNS.out]; exact hlt)⟩
      have hkx := HLM.out i k x hk hx
      have hx40 := HCO.out.stk x (List.mem_of_getElem? hx)
      have cL := KL.out wr hFA.out i k hk
      obtain ⟨cG0, cG1⟩ := KG.out wr hFA.out
      have hil : i ≤ c.stock.length := by rw [HCO.out.len, HNS.out]; exact hins
      have hlen : ns = (ordS c.stock l i).length := by rw [ordS_len hLS hil, HCO.out.len, HNS.out]
      obtain ⟨cK, fK⟩ := ownN_cell hST.out hlen (by rw [ordS_at hLS hil]; exact hx)
      have hwx : IntKind.i64.wrap ((x : Int) - k) = (x : Int) - k := IntWalk.i64_in _ (by omega)
      have HX := Lib.hid (And.intro hx (And.intro hk (And.intro hs (And.intro hkx (And.intro hx40 hlen)))))
      have HLS := Lib.hid hLS
      have HIL := Lib.hid hil
      clear hx hk hs hlen hLS hil hins
      go_wp2_with (fail)
      obtain ⟨wa, hwa⟩ : ∃ y, y = wr.setCell ⟨gk, i, none⟩ (.int .i64 ((x : Int) - k)) := ⟨_, rfl⟩
      rw [← hwa]
      have sta : ∀ j, j ≠ gk → wa.heap[j]? = wr.heap[j]? := fun j hj => by rw [hwa]; exact Below.heap_setCell wr ⟨gk, i, none⟩ _ j hj
      have HXA : Hid (wa.os = wr.os ∧ wa.tape = wr.tape ∧ wa.output = wr.output ∧ wa.heap.size = wr.heap.size) := by rw [hwa]; exact ⟨rfl, rfl, rfl, by simp⟩
      have HSA : Hid (OwnN wa (.slice (some ⟨gk, 0, none⟩) ns ck) (ordS c.stock l (i + 1))) := by
        obtain ⟨h1, h2, h3, h4, h5, h6⟩ := HX.out
        rw [hwa]
        have h := ownN_set hST.out h6 i (x - k)
        rw [ordS_next HLS.out h1 h2, Int.natCast_sub h4] at h
        exact h
      have HFA2 : Hid (FarB w9 wa gk gp) := fun j h1 h2 h3 => (sta j h2).trans (hFA.out j h1 h2 h3)
      have HGA : Hid (Blk wa gp 105 #[.string d, pv]) := (sta gp (Ne.symm NKP.out.1)).trans hGP.out
      have HPA : Hid (OwnI wa w9.heap.size pv (natI (packsP (c.sizes.take i) (l.take i)))) := hPV.out.keep fun j hj => sta j (by
        have := hPV.out.ge hj
        have := HKP.out
        have := HBW.out.size
        omega)
      have KA : Hid (wa.cell? ⟨gp, 1, none⟩ = some pv ∧ wa.cell? ⟨g, 0, none⟩ = some (.slice (some ⟨gs, 0, none⟩) ns cc)) := ⟨HGA.out.at_ 1 rfl, (KG.out wa HFA2.out).1⟩
      clear hwa sta cK fK cL cG0 cG1 hwx
      have hcc3 : (i : Int) + 1 ≤ cc := by omega
      have hi5 : (i : Int) < 5 := by omega
      have hwi : IntKind.i64.wrap ((i : Int) + 1) = (i : Int) + 1 := IntWalk.i64_in _ (by omega)
      have hti : ((i : Int) + 1).toNat = i + 1 := by omega
      have hne2 : ¬ cc = i := by omega
      have hi10 : (0 : Int) ≤ (i : Int) + 1 := by omega
      have hii : i ≤ i + 1 := by omega
      have hii1 : i + 1 - i = 1 := by omega
      refine De.region_tree (fun b w' => bif b then (True) else (w'.cell? ⟨gp, 1, none⟩ = some pv ∧ w'.cell? ⟨g, 0, none⟩ = some (.slice (some ⟨gs, 0, none⟩) ns cc))) 14 3 (by kernel_rfl) (by kernel_rfl) (by decide) KA.out ?_
      (try simp only [Act.put, De.l0, De.l1, De.l2])
      refine De.MidT.read (o := ?o17) (v := ?v17) 0 (by decide) ?q17 (by kernel_rfl) (by kernel_rfl) ?w17 (by kernel_rfl) ?y17 ?h17
      case q17 => (simp only [De.g0, De.g1, De.g2]; rfl)
      case w17 => kernel_rfl
      case y17 => (intro w' hw'; obtain ⟨x1, x2⟩ := hw'; go_simp; (try with_reducible rfl))
      (try simp only [Act.put, De.l0, De.l1, De.l2])
      refine De.MidT.read (o := ?o18) (v := ?v18) 1 (by decide) ?q18 (by kernel_rfl) (by kernel_rfl) ?w18 (by kernel_rfl) ?y18 ?h18
      case q18 => (simp only [De.g0, De.g1, De.g2]; rfl)
      case w18 => kernel_rfl
      case y18 => (intro w' hw'; obtain ⟨x1, x2⟩ := hw'; go_simp; (try with_reducible rfl))
      (try simp only [Act.put, De.l0, De.l1, De.l2])
      refine De.MidT.read (o := ?o19) (v := ?v19) 2 (by decide) ?q19 (by kernel_rfl) (by kernel_rfl) ?w19 (by kernel_rfl) ?y19 ?h19
      case q19 => (simp only [De.g0, De.g1, De.g2]; rfl)
      case w19 => kernel_rfl
      case y19 => (intro w' hw'; obtain ⟨x1, x2⟩ := hw'; go_simp; (try with_reducible rfl))
      (try simp only [Act.put, De.l0, De.l1, De.l2])
      refine De.MidT.read (o := ?o20) (v := ?v20) 3 (by decide) ?q20 (by kernel_rfl) (by kernel_rfl) ?w20 (by kernel_rfl) ?y20 ?h20
      case q20 => (simp only [De.g0, De.g1, De.g2]; rfl)
      case w20 => kernel_rfl
      case y20 => (intro w' hw'; obtain ⟨x1, x2⟩ := hw'; go_simp; (try with_reducible rfl))
      (try simp only [Act.put, De.l0, De.l1, De.l2])
      refine De.MidT.read (o := ?o21) (v := ?v21) 4 (by decide) ?q21 (by kernel_rfl) (by kernel_rfl) ?w21 (by kernel_rfl) ?y21 ?h21
      case q21 => (simp only [De.g0, De.g1, De.g2]; rfl)
      case w21 => kernel_rfl
      case y21 => (intro w' hw'; obtain ⟨x1, x2⟩ := hw'; go_simp; (try with_reducible rfl))
      (try simp only [Act.put, De.l0, De.l1, De.l2])
      refine De.MidT.read (o := ?o22) (v := ?v22) 5 (by decide) ?q22 (by kernel_rfl) (by kernel_rfl) ?w22 (by kernel_rfl) ?y22 ?h22
      case q22 => (simp only [De.g0, De.g1, De.g2]; rfl)
      case w22 => kernel_rfl
      case y22 => (intro w' hw'; obtain ⟨x1, x2⟩ := hw'; go_simp; (try with_reducible rfl))
      (try simp only [Act.put, De.l0, De.l1, De.l2])
      refine De.MidT.read (o := ?o23) (v := ?v23) 6 (by decide) ?q23 (by kernel_rfl) (by kernel_rfl) ?w23 (by kernel_rfl) ?y23 ?h23
      case q23 => (simp only [De.g0, De.g1, De.g2]; rfl)
      case w23 => kernel_rfl
      case y23 => (intro w' hw'; obtain ⟨x1, x2⟩ := hw'; go_simp; (try with_reducible rfl))
      (try simp only [Act.put, De.l0, De.l1, De.l2])
      refine De.MidT.read (o := ?o24) (v := ?v24) 7 (by decide) ?q24 (by kernel_rfl) (by kernel_rfl) ?w24 (by kernel_rfl) ?y24 ?h24
      case q24 => (simp only [De.g0, De.g1, De.g2]; rfl)
      case w24 => kernel_rfl
      case y24 => (intro w' hw'; obtain ⟨x1, x2⟩ := hw'; go_simp; (try with_reducible rfl))
      (try simp only [Act.put, De.l0, De.l1, De.l2])
      refine De.MidT.read (o := ?o25) (v := ?v25) 8 (by decide) ?q25 (by kernel_rfl) (by kernel_rfl) ?w25 (by kernel_rfl) ?y25 ?h25
      case q25 => (simp only [De.g0, De.g1, De.g2]; rfl)
      case w25 => kernel_rfl
      case y25 => (intro w' hw'; obtain ⟨x1, x2⟩ := hw'; go_simp; (try with_reducible rfl))
      (try simp only [Act.put, De.l0, De.l1, De.l2])
      refine De.MidT.read (o := ?o26) (v := ?v26) 9 (by decide) ?q26 (by kernel_rfl) (by kernel_rfl) ?w26 (by kernel_rfl) ?y26 ?h26
      case q26 => (simp only [De.g0, De.g1, De.g2]; rfl)
      case w26 => kernel_rfl
      case y26 => (intro w' hw'; obtain ⟨x1, x2⟩ := hw'; go_simp; (try with_reducible rfl))
      (try simp only [Act.put, De.l0, De.l1, De.l2])
      refine De.MidT.read (o := ?o27) (v := ?v27) 10 (by decide) ?q27 (by kernel_rfl) (by kernel_rfl) ?w27 (by kernel_rfl) ?y27 ?h27
      case q27 => (simp only [De.g0, De.g1, De.g2]; rfl)
      case w27 => kernel_rfl
      case y27 => (intro w' hw'; obtain ⟨x1, x2⟩ := hw'; go_simp; (try with_reducible rfl))
      (try simp only [Act.put, De.l0, De.l1, De.l2])
      (try refine De.MidT.tail ?_)
      refine De.Tr.one (i := 11) (o := ?o28) (by kernel_rfl) ?q28 ?g28 ?h28
      case q28 => (simp only [De.g0, De.g1, De.g2]; rfl)
      case g28 => rfl
      refine wp_enterK 231 #[.slice (some ⟨gs, i, none⟩) 1 (cc - i), .int .i64 (k : Int)] (by go_simp) (repeat_any gs i (cc - i) s k (Nat.le_trans HX.out.2.2.2.1 HX.out.2.2.2.2.1) wa.drew (KS.out wa HFA2.out i s HX.out.2.2.1) (Nat.lt_of_lt_of_le NKP.out.2.1 (by have h1 := HBW.out.size; have h2 := HXA.out.2.2.2; have h3 := hEX.out.2.2.2; show w.heap.size ≤ wa.heap.size; omega))) ?_
      rintro e wb ⟨⟨gr, rfl, hRP⟩, hbb⟩
      have zA : w9.heap.size ≤ wa.heap.size := by rw [HXA.out.2.2.2]; exact hEX.out.2.2.2
      have zB : wa.heap.size ≤ wb.heap.size := hbb.size
      have stb : ∀ j, j < wa.heap.size → wb.heap[j]? = wa.heap[j]? := fun j hj => hbb.block j hj
      have hpl := HGPL.out
      have hkp : gk < w9.heap.size := Nat.lt_of_lt_of_le HKP.out HBW.out.size
      have hgl9 : g < w9.heap.size := Nat.lt_of_lt_of_le NKP.out.2.2.1 HBW.out.size
      have HGB : Hid (Blk wb gp 105 #[.string d, pv]) := (stb gp (by omega)).trans HGA.out
      have HFB : Hid (FarB w9 wb gk gp) := fun j h1 h2 h3 => (stb j (by omega)).trans (HFA2.out j h1 h2 h3)
      have HPB : Hid (OwnI wb w9.heap.size pv (natI (packsP (c.sizes.take i) (l.take i)))) := OwnI.callee (w := wa.drew) HPA.out hbb
      have hpne : ∀ j, j < w9.heap.size → pv.ownBlock ≠ some j := fun j hj e => by
        have := HPB.out.ge e
        omega
      have HEB : Hid (wb.os = wa.os ∧ wb.tape = wa.tape ∧ wb.output = wa.output) := ⟨hbb.os, hbb.tape, hbb.output⟩
      refine ⟨_, rfl, ⟨_, rfl⟩, ⟨HGB.out.at_ 1 rfl, (KG.out wb HFB.out).1⟩, ?_⟩
      (try simp only [Act.put, De.l0, De.l1, De.l2])
      (try refine De.MidT.tail ?_)
      refine De.Tr.one (i := 12) (o := ?o29) (by kernel_rfl) ?q29 ?g29 ?h29
      case q29 => (simp only [De.g0, De.g1, De.g2]; rfl)
      case g29 => rfl
      refine wp_spread _ _ rfl rfl HPB.out gr k k rfl (natI (List.replicate k s)) (by simp [natI]) hRP (by
        have h1 := packs_len (ss := c.sizes) (l := l) HCO.out.five (fun y hy => by
          obtain ⟨j, hj, e⟩ := List.getElem_of_mem hy
          have hj2 : l[j]? = some y := by rw [List.getElem?_eq_getElem hj, e]
          obtain ⟨m, hm⟩ : ∃ m, c.stock[j]? = some m := ⟨_, List.getElem?_eq_getElem (by rw [← HLS.out]; exact hj)⟩
          exact Nat.le_trans (HLM.out j y m hj2 hm) (HCO.out.stk m (List.mem_of_getElem? hm))) i
        have h2 := HX.out.2.2.2.1
        have h3 := HX.out.2.2.2.2.1
        rw [natI_length]
        omega) (by omega) ?_
      intro pv' wc hPC hgrC
      replace hgrC : wb.grownBy wc pv.ownBlock := hgrC
      have zC : wb.heap.size ≤ wc.heap.size := hgrC.size
      have stc : ∀ j, j < w9.heap.size → wc.heap[j]? = wb.heap[j]? := fun j hj => hgrC.block j (by omega) (fun e => hpne j hj (by rw [e]))
      have HGC : Hid (Blk wc gp 105 #[.string d, pv]) := (stc gp hpl).trans HGB.out
      have HFC : Hid (FarB w9 wc gk gp) := fun j h1 h2 h3 => (stc j h1).trans (HFB.out j h1 h2 h3)
      refine ⟨⟨_, rfl⟩, ⟨HGC.out.at_ 1 rfl, (KG.out wc HFC.out).1⟩, ?_⟩
      (try simp only [Act.put, De.l0, De.l1, De.l2])
      refine De.MidT.read2 (o := ?o30) (v := ?v30) 13 (by decide) ?q30 (by kernel_rfl) (by kernel_rfl) ?w30 ?y30 ?h30
      case q30 => (simp only [De.g0, De.g1, De.g2]; rfl)
      case w30 => kernel_rfl
      case y30 => (intro b w' hw'; clear hw'; go_simp; (try with_reducible rfl))
      (try simp only [Act.put, De.l0, De.l1, De.l2])
      obtain ⟨A', c', hpe, _⟩ := ownI_form hPC
      have hPC2 : OwnI wc w9.heap.size pv' (natI (packsP (c.sizes.take (i + 1)) (l.take (i + 1)))) := by
        rw [packs_next HX.out.2.2.1 HX.out.2.1]
        simp only [natI, List.map_append] at hPC ⊢
        exact hPC
      have HPC := Lib.hid hPC2
      clear hPC hPC2
      generalize (natI (packsP (c.sizes.take i) (l.take i)) ++ natI (List.replicate k s)).length = m' at hpe
      subst hpe
      have c14 : wc.cell? ⟨gp, 1, none⟩ = some pv := HGC.out.at_ 1 rfl
      have f14 := HGC.out.frozen 1
      (try simp only [Act.put, De.l0, De.l1, De.l2])
      (try refine De.MidT.tail ?_)
      refine De.Tr.one (i := 14) (o := ?o31) (by kernel_rfl) ?q31 ?g31 ?h31
      case q31 => (simp only [De.g0, De.g1, De.g2]; rfl)
      case g31 => rfl
      refine wp_setcell 40 _ _ rfl gp 1 (.slice A' m' c') rfl rfl (by go_simp) ?_
      have HGD : Hid (Blk (wc.setCell ⟨gp, 1, none⟩ (.slice A' m' c')) gp 105 #[.string d, .slice A' m' c']) := HGC.out.set_ 1 _
      have std : ∀ j, j ≠ gp → (wc.setCell ⟨gp, 1, none⟩ (.slice A' m' c')).heap[j]? = wc.heap[j]? := fun j hj => Below.heap_setCell wc ⟨gp, 1, none⟩ _ j hj
      have HXD : Hid ((wc.setCell ⟨gp, 1, none⟩ (.slice A' m' c')).os = wc.os ∧ (wc.setCell ⟨gp, 1, none⟩ (.slice A' m' c')).tape = wc.tape ∧ (wc.setCell ⟨gp, 1, none⟩ (.slice A' m' c')).output = wc.output ∧ (wc.setCell ⟨gp, 1, none⟩ (.slice A' m' c')).heap.size = wc.heap.size) := ⟨rfl, rfl, rfl, by simp⟩
      have HPD : Hid (OwnI (wc.setCell ⟨gp, 1, none⟩ (.slice A' m' c')) w9.heap.size (.slice A' m' c') (natI (packsP (c.sizes.take (i + 1)) (l.take (i + 1))))) := HPC.out.set_ (fun e => by
        have := HPC.out.ge e
        show False
        have h : (⟨gp, 1, none⟩ : Addr).block = gp := rfl
        omega) _
      obtain ⟨wd, hwd⟩ : ∃ y, y = wc.setCell ⟨gp, 1, none⟩ (.slice A' m' c') := ⟨_, rfl⟩
      rw [← hwd] at HGD std HXD HPD ⊢
      clear hwd c14 f14
      refine ⟨⟨_, rfl⟩, trivial, ?_⟩
      (try refine De.MidT.tail ?_)
      refine De.Tr.done (by kernel_rfl) ?_
      (try simp only [Act.put, De.l0, De.l1, De.l2])
      have HSD : Hid (OwnN wd (.slice (some ⟨gk, 0, none⟩) ns ck) (ordS c.stock l (i + 1))) := OwnI.same HSA.out fun j hj => by
        obtain rfl : gk = j := by injection hj
        exact (std gk NKP.out.1).trans ((stc gk hkp).trans (stb gk (by omega)))
      have HFD : Hid (FarB w9 wd gk gp) := fun j h1 h2 h3 => (std j h3).trans (HFC.out j h1 h2 h3)
      have HED : Hid (wd.os = w9.os ∧ wd.tape = w9.tape ∧ wd.output = w9.output ∧ w9.heap.size ≤ wd.heap.size) := by
        obtain ⟨a1, a2, a3, a4⟩ := hEX.out
        obtain ⟨b1, b2, b3, b4⟩ := HXA.out
        obtain ⟨d1, d2, d3⟩ := HEB.out
        obtain ⟨e1, e2, e3, e4⟩ := HXD.out
        exact ⟨by rw [e1, hgrC.os, d1, b1, a1], by rw [e2, hgrC.tape, d2, b2, a2], by rw [e3, hgrC.output, d3, b3, a3], by omega⟩
      clear std stb stc hRP hbb hgrC zA zB zC hpne hpl hkp hgl9
      go_wp2_with (fail)
      go_roundw
      case rel => exact ⟨i + 1, _, by omega, by go_num, HSD, HGD, HPD, HFD, HED⟩
      case measure => simp only [intOf]; omega
    · have hlti : ¬ (i : Int) < ns := by omega
      obtain rfl : i = ns := by omega
      have HT : Hid (OwnN wr (V (.stock d)) (List.zipWith (· - ·) c.stock l)) := by
        have h := hST.out
        have e : ordS c.stock l i = List.zipWith (· - ·) c.stock l := by
          rw [show i = c.stock.length by rw [HCO.out.len, HNS.out]]
          exact ordS_end (by rw [HLL.out, HCO.out.len, HNS.out])
        rw [e, ← HVK.out] at h
        exact h
      have HP : Hid (OwnI wr w9.heap.size pv (natI (packsP c.sizes l))) := by
        have h := hPV.out
        have e1 : c.sizes.take i = c.sizes := List.take_of_length_le (by rw [HNS.out]; exact Nat.le_refl _)
        have e2 : l.take i = l := List.take_of_length_le (by rw [HLL.out]; exact Nat.le_refl _)
        rw [e1, e2] at h
        exact h
      have hgo : ∀ {r : Role} {j : Nat}, blkOf (V r) = some j → j < w.heap.size := fun h => HH.out.lt ⟨_, h⟩
      have hzw := HBW.out.size
      have hz45 := HK.out.be.size
      have hz4 := HB4.out.size
      have hz9 := HB9.out.size
      have hgpe := HGE.out
      have hex := hEX.out.2.2.2
      have bk : blkOf (V (.stock d)) = some gk := by rw [HVK.out]; rfl
      have bg : blkOf (V (.chest d)) = some g := by rw [HG.out]; rfl
      -- what stands since w5
      have FR : Hid (∀ j, j < w5.heap.size → j ≠ gk → wr.heap[j]? = w5.heap[j]?) := fun j h1 h2 => (hFA.out j (by omega) h2 (by omega)).trans (HB9.out.block j h1)
      have HCR : Hid (Blk wr g 103 (chestV (V (.sizes d)) (V (.stock d)) (V (.outs d)) c)) := by
        obtain ⟨⟨g', h1, h2⟩, _⟩ := HH.out.ch d c HKC.out
        rw [HG.out] at h1
        obtain rfl : g = g' := by injection h1 with h; injection h with h; injection h
        exact (hFA.out g (by have := hgo bg; omega) (HH.out.ne_ bg bk (by simp)) (by have := hgo bg; omega)).trans (h2.callee HBW.out)
      have HG1R : Hid (Blk wr g1 212 #[.string o, .string d, .int .i64 (n : Int)]) := by
        have h1 := HE1.out.1
        have h2 := HG14.out.lt
        have h3 := HKP.out
        exact (hFA.out g1 (by omega) (by omega) (by omega)).trans (Blk.callee HG14.out HB49.out)
      have HG2R : Hid (Blk wr g2 37 #[.pointer (some ⟨gh, 0, none⟩)]) := by
        have h1 := HE1.out.2.1
        have h2 := HG24.out.lt
        have h3 := HKP.out
        exact (hFA.out g2 (by omega) (by omega) (by omega)).trans (Blk.callee HG24.out HB49.out)
      have HOR : Hid (OwnT wr (V (.outs d)) c.out) := OwnS.same (OwnS.callee (HH.out.ch d c HKC.out).out HBW.out) fun j hj => hFA.out j (by have := hgo hj; omega) (HH.out.ne_ hj bk (by simp)) (by have := hgo hj; omega)
      have N1 : Hid (g1 ≠ g ∧ w.heap.size ≤ g1 ∧ g < w.heap.size ∧ g1 < w9.heap.size) := ⟨by have := hgo bg; have := HE1.out.1; omega, HE1.out.1, hgo bg, by have := HG14.out.lt; omega⟩
      have KO : Hid (wr.cell? ⟨g, 5, none⟩ = some (V (.outs d)) ∧ wr.cell? ⟨g1, 0, none⟩ = some (.string o)) := ⟨HCR.out.at_ 5 rfl, HG1R.out.at_ 0 rfl⟩
      have NO : Hid (∀ j, blkOf (V (.outs d)) = some j → j ≠ g ∧ j < w.heap.size) := fun j hj => ⟨HH.out.ne_ hj bg (by simp), hgo hj⟩
      clear hST hPV hgo bk bg hz9
      go_wp2_with (fail)
      refine De.region_tree (fun b w' => bif b then (True) else (w'.cell? ⟨g, 5, none⟩ = some (V (.outs d)) ∧ w'.cell? ⟨g1, 0, none⟩ = some (.string o))) 11 3 (by kernel_rfl) (by kernel_rfl) (by decide) KO.out ?_
      (try simp only [Act.put, De.l0, De.l1, De.l2])
      refine De.MidT.read (o := ?o32) (v := ?v32) 0 (by decide) ?q32 (by kernel_rfl) (by kernel_rfl) ?w32 (by kernel_rfl) ?y32 ?h32
      case q32 => (simp only [De.g0, De.g1, De.g2]; rfl)
      case w32 => kernel_rfl
      case y32 => (intro w' hw'; obtain ⟨x1, x2⟩ := hw'; go_simp; (try with_reducible rfl))
      (try simp only [Act.put, De.l0, De.l1, De.l2])
      refine De.MidT.read (o := ?o33) (v := ?v33) 1 (by decide) ?q33 (by kernel_rfl) (by kernel_rfl) ?w33 (by kernel_rfl) ?y33 ?h33
      case q33 => (simp only [De.g0, De.g1, De.g2]; rfl)
      case w33 => kernel_rfl
      case y33 => (intro w' hw'; obtain ⟨x1, x2⟩ := hw'; go_simp; (try with_reducible rfl))
      (try simp only [Act.put, De.l0, De.l1, De.l2])
      refine De.MidT.read (o := ?o34) (v := ?v34) 2 (by decide) ?q34 (by kernel_rfl) (by kernel_rfl) ?w34 (by kernel_rfl) ?y34 ?h34
      case q34 => (simp only [De.g0, De.g1, De.g2]; rfl)
      case w34 => kernel_rfl
      case y34 => (intro w' hw'; obtain ⟨x1, x2⟩ := hw'; go_simp; (try with_reducible rfl))
      (try simp only [Act.put, De.l0, De.l1, De.l2])
      refine De.MidT.read (o := ?o35) (v := ?v35) 3 (by decide) ?q35 (by kernel_rfl) (by kernel_rfl) ?w35 (by kernel_rfl) ?y35 ?h35
      case q35 => (simp only [De.g0, De.g1, De.g2]; rfl)
      case w35 => kernel_rfl
      case y35 => (intro w' hw'; obtain ⟨x1, x2⟩ := hw'; go_simp; (try with_reducible rfl))
      (try simp only [Act.put, De.l0, De.l1, De.l2])
      refine De.MidT.read (o := ?o36) (v := ?v36) 4 (by decide) ?q36 (by kernel_rfl) (by kernel_rfl) ?w36 (by kernel_rfl) ?y36 ?h36
      case q36 => (simp only [De.g0, De.g1, De.g2]; rfl)
      case w36 => kernel_rfl
      case y36 => (intro w' hw'; obtain ⟨x1, x2⟩ := hw'; go_simp; (try with_reducible rfl))
      (try simp only [Act.put, De.l0, De.l1, De.l2])
      refine De.MidT.read (o := ?o37) (v := ?v37) 5 (by decide) ?q37 (by kernel_rfl) (by kernel_rfl) ?w37 (by kernel_rfl) ?y37 ?h37
      case q37 => (simp only [De.g0, De.g1, De.g2]; rfl)
      case w37 => kernel_rfl
      case y37 => (intro w' hw'; obtain ⟨x1, x2⟩ := hw'; go_simp; (try with_reducible rfl))
      (try simp only [Act.put, De.l0, De.l1, De.l2])
      refine De.MidT.read (o := ?o38) (v := ?v38) 6 (by decide) ?q38 (by kernel_rfl) (by kernel_rfl) ?w38 (by kernel_rfl) ?y38 ?h38
      case q38 => (simp only [De.g0, De.g1, De.g2]; rfl)
      case w38 => kernel_rfl
      case y38 => (intro w' hw'; obtain ⟨x1, x2⟩ := hw'; go_simp; (try with_reducible rfl))
      (try simp only [Act.put, De.l0, De.l1, De.l2])
      (try refine De.MidT.tail ?_)
      refine De.Tr.one (i := 7) (o := ?o39) (by kernel_rfl) ?q39 ?g39 ?h39
      case q39 => (simp only [De.g0, De.g1, De.g2]; rfl)
      case g39 => rfl
      refine wp_lit1 22 9 _ (.string o) rfl rfl (lit_str o) ?_
      intro wf gf hLf hgrf hgef
      have hbf : Below wr.heap.size wr wf := (Below.refl _ _).drew.trans (below_grown (w := wr.drew) hgrf)
      refine ⟨⟨_, rfl⟩, ⟨(HCR.out.callee hbf).at_ 5 rfl, (HG1R.out.callee hbf).at_ 0 rfl⟩, ?_⟩
      (try simp only [Act.put, De.l0, De.l1, De.l2])
      (try refine De.MidT.tail ?_)
      refine De.Tr.one (i := 8) (o := ?o40) (by kernel_rfl) ?q40 ?g40 ?h40
      case q40 => (simp only [De.g0, De.g1, De.g2]; rfl)
      case g40 => rfl
      refine wp_pushS _ _ rfl rfl (OwnS.callee HOR.out hbf) gf 1 o rfl hLf (by have := HCO.out.outl; omega) (Nat.zero_le _) ?_
      intro gv capv wg hOg hgrg hatg hltg
      replace hgrg : wf.grownBy wg (V (.outs d)).ownBlock := hgrg
      replace hatg : (V (.outs d)).ownBlock = some gv ∨ gv = wf.heap.size := hatg
      have eo : (V (.outs d)).ownBlock = blkOf (V (.outs d)) := own_blkS HOR.out
      rw [eo] at hgrg hatg
      have zf := hbf.size
      have hn1 := N1.out
      have stg : ∀ j, j < wr.heap.size → blkOf (V (.outs d)) ≠ some j → wg.heap[j]? = wr.heap[j]? := fun j h1 h2 => (hgrg.block j (by omega) (fun e => h2 e.symm)).trans (hbf.block j h1)
      have HCG : Hid (Blk wg g 103 (chestV (V (.sizes d)) (V (.stock d)) (V (.outs d)) c)) := (stg g (by omega) (fun e => (NO.out g e).1 rfl)).trans HCR.out
      have HG1G : Hid (Blk wg g1 212 #[.string o, .string d, .int .i64 (n : Int)]) := (stg g1 (by omega) (fun e => by have := (NO.out g1 e).2; omega)).trans HG1R.out
      have HOG := Lib.hid hOg
      have HSG := Lib.hid stg
      have HXG : Hid (wg.os = wr.os ∧ wg.tape = wr.tape ∧ wg.output = wr.output ∧ wr.heap.size ≤ wg.heap.size) := ⟨hgrg.os.trans hbf.os, hgrg.tape.trans hbf.tape, hgrg.output.trans hbf.output, Nat.le_trans zf hgrg.size⟩
      have HAT : Hid (blkOf (V (.outs d)) = some gv ∨ wr.heap.size ≤ gv) := hatg.imp id (fun h => by omega)
      clear hOg stg hgrg hatg hbf hgrf hLf hgef eo zf hn1
      refine ⟨⟨_, rfl⟩, ⟨HCG.out.at_ 5 rfl, HG1G.out.at_ 0 rfl⟩, ?_⟩
      (try simp only [Act.put, De.l0, De.l1, De.l2])
      refine De.MidT.read2 (o := ?o41) (v := ?v41) 9 (by decide) ?q41 (by kernel_rfl) (by kernel_rfl) ?w41 ?y41 ?h41
      case q41 => (simp only [De.g0, De.g1, De.g2]; rfl)
      case w41 => kernel_rfl
      case y41 => (intro b w' hw'; clear hw'; go_simp; (try with_reducible rfl))
      (try simp only [Act.put, De.l0, De.l1, De.l2])
      refine De.MidT.read2 (o := ?o42) (v := ?v42) 10 (by decide) ?q42 (by kernel_rfl) (by kernel_rfl) ?w42 ?y42 ?h42
      case q42 => (simp only [De.g0, De.g1, De.g2]; rfl)
      case w42 => kernel_rfl
      case y42 => (intro b w' hw'; clear hw'; go_simp; (try with_reducible rfl))
      (try simp only [Act.put, De.l0, De.l1, De.l2])
      have c11 : wg.cell? ⟨g, 5, none⟩ = some (V (.outs d)) := HCG.out.at_ 5 rfl
      have f11 := HCG.out.frozen 5
      (try simp only [Act.put, De.l0, De.l1, De.l2])
      (try refine De.MidT.tail ?_)
      refine De.Tr.one (i := 11) (o := ?o43) (by kernel_rfl) ?q43 ?g43 ?h43
      case q43 => (simp only [De.g0, De.g1, De.g2]; rfl)
      case g43 => rfl
      refine wp_setcell 22 _ _ rfl g 5 (.slice (some ⟨gv, 0, none⟩) (c.out.length + 1) capv) rfl rfl (by go_simp) ?_
      obtain ⟨wh, hwh⟩ : ∃ y, y = wg.setCell ⟨g, 5, none⟩ (.slice (some ⟨gv, 0, none⟩) (c.out.length + 1) capv) := ⟨_, rfl⟩
      rw [← hwh]
      have HCH2 : Hid (Blk wh g 103 (chestV (V (.sizes d)) (V (.stock d)) (.slice (some ⟨gv, 0, none⟩) (c.out.length + 1) capv) c)) := by rw [hwh]; exact HCG.out.set_ 5 _
      have HSH2 : Hid (∀ j, j ≠ g → wh.heap[j]? = wg.heap[j]?) := fun j hj => by rw [hwh]; exact Below.heap_setCell wg ⟨g, 5, none⟩ _ j hj
      have HXH : Hid (wh.os = wg.os ∧ wh.tape = wg.tape ∧ wh.output = wg.output ∧ wh.heap.size = wg.heap.size) := by rw [hwh]; exact ⟨rfl, rfl, rfl, by simp⟩
      clear hwh c11 f11
      refine ⟨⟨_, rfl⟩, trivial, ?_⟩
      (try refine De.MidT.tail ?_)
      refine De.Tr.done (by kernel_rfl) ?_
      (try simp only [Act.put, De.l0, De.l1, De.l2])
      have zz : w5.heap.size ≤ wr.heap.size ∧ w.heap.size ≤ w5.heap.size := ⟨Nat.le_trans HB9.out.size hEX.out.2.2.2, Nat.le_trans HB4.out.size HK.out.be.size⟩
      have FX : Hid (∀ {r : Role} {j : Nat}, blkOf (V r) = some j → r ≠ .chest d → r ≠ .stock d → r ≠ .outs d → wh.heap[j]? = w9.heap[j]?) := fun {r j} h r1 r2 r3 => by
        have hj := HH.out.lt ⟨r, h⟩
        have bk : blkOf (V (.stock d)) = some gk := by rw [HVK.out]; rfl
        have bg : blkOf (V (.chest d)) = some g := by rw [HG.out]; rfl
        exact (HSH2.out j (HH.out.ne_ h bg r1)).trans ((HSG.out j (by omega) (fun e => HH.out.ne_ h e r3 rfl)).trans (hFA.out j (by omega) (HH.out.ne_ h bk r2) (by omega)))
      -- the drawer as the order leaves it
      have HD : Hid (HouseAt wh (updC V d (V (.sizes d)) (V (.stock d)) (.slice (some ⟨gv, 0, none⟩) (c.out.length + 1) capv)) (S.set d { c with stock := List.zipWith (· - ·) c.stock l, out := c.out ++ [o] }) ∧ Frm (Foot V) w (Foot (updC V d (V (.sizes d)) (V (.stock d)) (.slice (some ⟨gv, 0, none⟩) (c.out.length + 1) capv))) wh) := by
        have HD := deed_chest (g3 := g3) (g4 := g4) (ws := ws) (wk := wk) (wo := wo) (vs' := V (.sizes d)) (vk' := V (.stock d)) (vo' := .slice (some ⟨gv, 0, none⟩) (c.out.length + 1) capv) (w3 := w4) (w4 := w5) (w6 := wh) (c' := { c with stock := List.zipWith (· - ·) c.stock l, out := c.out ++ [o] }) HH.out HKC.out HG.out HB4.out HK.out
        have bk : blkOf (V (.stock d)) = some gk := by rw [HVK.out]; rfl
        have bg : blkOf (V (.chest d)) = some g := by rw [HG.out]; rfl
        have hvo : ∀ r : Role, r ≠ .outs d → ∀ k, blkOf (V r) = some k → k ≠ gv := fun r hr k h e => by
          rcases HAT.out with h1 | h1
          · exact HH.out.ne_ h h1 hr e
          · have := HH.out.lt ⟨r, h⟩
            omega
        have CA := HH.out.ch d c HKC.out
        have := HD ⟨HXH.out.1.trans (HXG.out.1.trans (hEX.out.1.trans HB9.out.os)), HXH.out.2.1.trans (HXG.out.2.1.trans (hEX.out.2.1.trans HB9.out.tape)), HXH.out.2.2.1.trans (HXG.out.2.2.1.trans (hEX.out.2.2.1.trans HB9.out.output)), by rw [HXH.out.2.2.2]; exact Nat.le_trans zz.1 HXG.out.2.2.2⟩
          (fun j h1 h2 h3 h4 h5 => (HSH2.out j h2).trans ((HSG.out j (by omega) h5).trans (FR.out j h1 (fun e => h4 (by rw [bk, e])))))
          ⟨⟨g, HG.out, HCH2.out⟩, OwnI.same (OwnI.callee CA.sizes HBW.out) (fun j hj => FX.out hj (by simp) (by simp) (by simp)), OwnI.same HT.out (fun j hj => by
              obtain rfl : gk = j := by rw [bk] at hj; injection hj
              exact (HSH2.out gk (fun e => NKP.out.2.2.2 e.symm)).trans (HSG.out gk (by have := HKP.out; omega) (fun e => HH.out.ne_ e bk (by simp) rfl))), OwnS.same HOG.out (fun j hj => by
              obtain rfl : gv = j := by injection hj
              exact HSH2.out gv (fun e => hvo (.chest d) (by simp) g bg e.symm))⟩
          (.self _ _ _) (.self _ _ _) (fun k hk => by
              obtain rfl : gv = k := by injection hk
              exact HAT.out.imp id (fun h => by omega)) (HH.out.apart (by simp)) (fun k h1 h2 => by
              obtain rfl : gv = k := by injection h2
              exact hvo _ (by simp) gv h1 rfl) (fun k h1 h2 => by
              obtain rfl : gv = k := by injection h2
              exact hvo _ (by simp) gv h1 rfl)
        exact ⟨this.1, this.2.1⟩
      obtain ⟨mo, hVo, hMo⟩ := HD.out.1.mo
      obtain ⟨mu, hVu, hMu⟩ := HD.out.1.mu
      obtain ⟨gh', hVh, hBh⟩ := HD.out.1.hs
      rw [hVo, hVu] at hBh
      rw [show updC V d (V (.sizes d)) (V (.stock d)) (.slice (some ⟨gv, 0, none⟩) (c.out.length + 1) capv) .house = V .house from updC_house _ _ _ _ _, HVH.out] at hVh
      obtain rfl : gh = gh' := by injection hVh with h; injection h with h; injection h
      have HG1H : Hid (Blk wh g1 212 #[.string o, .string d, .int .i64 (n : Int)]) := (HSH2.out g1 N1.out.1).trans HG1G.out
      have HG2H : Hid (Blk wh g2 37 #[.pointer (some ⟨gh, 0, none⟩)]) := by
        have h1 := HE1.out.2.1
        have h2 := N1.out.2.2.1
        have h3 := HG2R.out.lt
        exact (HSH2.out g2 (by omega)).trans ((HSG.out g2 h3 (fun e => by have := (NO.out g2 e).2; omega)).trans HG2R.out)
      have HGPH : Hid (Blk wh gp 105 #[.string d, pv]) := by
        have h2 := N1.out.2.2.1
        have h3 := hGP.out.lt
        exact (HSH2.out gp (by omega)).trans ((HSG.out gp h3 (fun e => by have := (NO.out gp e).2; omega)).trans hGP.out)
      have HBH := Lib.hid hBh
      have HMO := Lib.hid hMo
      have HMU := Lib.hid hMu
      have HVO := Lib.hid hVo
      have HVU := Lib.hid hVu
      have KM : Hid (wh.cell? ⟨g2, 0, none⟩ = some (.pointer (some ⟨gh, 0, none⟩)) ∧ wh.cell? ⟨gh, 2, none⟩ = some (.map (some mo)) ∧ wh.cell? ⟨gh, 3, none⟩ = some (.map (some mu)) ∧ wh.cell? ⟨g1, 0, none⟩ = some (.string o) ∧ wh.cell? ⟨gp, 0, none⟩ = some (.string d) ∧ wh.cell? ⟨gp, 1, none⟩ = some pv) := ⟨HG2H.out.at_ 0 rfl, HBH.out.at_ 2 rfl, HBH.out.at_ 3 rfl, HG1H.out.at_ 0 rfl, HGPH.out.at_ 0 rfl, HGPH.out.at_ 1 rfl⟩
      clear hMo hMu hVo hVu hBh hVh
      go_wp2_with (fail)
      refine De.region_tree (fun b w' => bif b then (True) else (w'.cell? ⟨g2, 0, none⟩ = some (.pointer (some ⟨gh, 0, none⟩)) ∧ w'.cell? ⟨gh, 2, none⟩ = some (.map (some mo)) ∧ w'.cell? ⟨gh, 3, none⟩ = some (.map (some mu)) ∧ w'.cell? ⟨g1, 0, none⟩ = some (.string o) ∧ w'.cell? ⟨gp, 0, none⟩ = some (.string d) ∧ w'.cell? ⟨gp, 1, none⟩ = some pv)) 18 4 (by kernel_rfl) (by kernel_rfl) (by decide) KM.out ?_
      (try simp only [Act.put, De.l0, De.l1, De.l2])
      refine De.MidT.read (o := ?o44) (v := ?v44) 0 (by decide) ?q44 (by kernel_rfl) (by kernel_rfl) ?w44 (by kernel_rfl) ?y44 ?h44
      case q44 => (simp only [De.g0, De.g1, De.g2]; rfl)
      case w44 => kernel_rfl
      case y44 => (intro w' hw'; obtain ⟨x1, x2, x3, x4, x5, x6⟩ := hw'; go_simp; (try with_reducible rfl))
      (try simp only [Act.put, De.l0, De.l1, De.l2])
      refine De.MidT.read (o := ?o45) (v := ?v45) 1 (by decide) ?q45 (by kernel_rfl) (by kernel_rfl) ?w45 (by kernel_rfl) ?y45 ?h45
      case q45 => (simp only [De.g0, De.g1, De.g2]; rfl)
      case w45 => kernel_rfl
      case y45 => (intro w' hw'; obtain ⟨x1, x2, x3, x4, x5, x6⟩ := hw'; go_simp; (try with_reducible rfl))
      (try simp only [Act.put, De.l0, De.l1, De.l2])
      refine De.MidT.read (o := ?o46) (v := ?v46) 2 (by decide) ?q46 (by kernel_rfl) (by kernel_rfl) ?w46 (by kernel_rfl) ?y46 ?h46
      case q46 => (simp only [De.g0, De.g1, De.g2]; rfl)
      case w46 => kernel_rfl
      case y46 => (intro w' hw'; obtain ⟨x1, x2, x3, x4, x5, x6⟩ := hw'; go_simp; (try with_reducible rfl))
      (try simp only [Act.put, De.l0, De.l1, De.l2])
      refine De.MidT.read (o := ?o47) (v := ?v47) 3 (by decide) ?q47 (by kernel_rfl) (by kernel_rfl) ?w47 (by kernel_rfl) ?y47 ?h47
      case q47 => (simp only [De.g0, De.g1, De.g2]; rfl)
      case w47 => kernel_rfl
      case y47 => (intro w' hw'; obtain ⟨x1, x2, x3, x4, x5, x6⟩ := hw'; go_simp; (try with_reducible rfl))
      (try simp only [Act.put, De.l0, De.l1, De.l2])
      refine De.MidT.read (o := ?o48) (v := ?v48) 4 (by decide) ?q48 (by kernel_rfl) (by kernel_rfl) ?w48 (by kernel_rfl) ?y48 ?h48
      case q48 => (simp only [De.g0, De.g1, De.g2]; rfl)
      case w48 => kernel_rfl
      case y48 => (intro w' hw'; obtain ⟨x1, x2, x3, x4, x5, x6⟩ := hw'; go_simp; (try with_reducible rfl))
      (try simp only [Act.put, De.l0, De.l1, De.l2])
      refine De.MidT.read (o := ?o49) (v := ?v49) 5 (by decide) ?q49 (by kernel_rfl) (by kernel_rfl) ?w49 (by kernel_rfl) ?y49 ?h49
      case q49 => (simp only [De.g0, De.g1, De.g2]; rfl)
      case w49 => kernel_rfl
      case y49 => (intro w' hw'; obtain ⟨x1, x2, x3, x4, x5, x6⟩ := hw'; go_simp; (try with_reducible rfl))
      (try simp only [Act.put, De.l0, De.l1, De.l2])
      refine De.MidT.read (o := ?o50) (v := ?v50) 6 (by decide) ?q50 (by kernel_rfl) (by kernel_rfl) ?w50 (by kernel_rfl) ?y50 ?h50
      case q50 => (simp only [De.g0, De.g1, De.g2]; rfl)
      case w50 => kernel_rfl
      case y50 => (intro w' hw'; obtain ⟨x1, x2, x3, x4, x5, x6⟩ := hw'; go_simp; (try with_reducible rfl))
      (try simp only [Act.put, De.l0, De.l1, De.l2])
      refine De.MidT.read (o := ?o51) (v := ?v51) 7 (by decide) ?q51 (by kernel_rfl) (by kernel_rfl) ?w51 (by kernel_rfl) ?y51 ?h51
      case q51 => (simp only [De.g0, De.g1, De.g2]; rfl)
      case w51 => kernel_rfl
      case y51 => (intro w' hw'; obtain ⟨x1, x2, x3, x4, x5, x6⟩ := hw'; go_simp; (try with_reducible rfl))
      (try simp only [Act.put, De.l0, De.l1, De.l2])
      refine De.MidT.read (o := ?o52) (v := ?v52) 8 (by decide) ?q52 (by kernel_rfl) (by kernel_rfl) ?w52 (by kernel_rfl) ?y52 ?h52
      case q52 => (simp only [De.g0, De.g1, De.g2]; rfl)
      case w52 => kernel_rfl
      case y52 => (intro w' hw'; obtain ⟨x1, x2, x3, x4, x5, x6⟩ := hw'; go_simp; (try with_reducible rfl))
      (try simp only [Act.put, De.l0, De.l1, De.l2])
      refine De.MidT.read (o := ?o53) (v := ?v53) 9 (by decide) ?q53 (by kernel_rfl) (by kernel_rfl) ?w53 (by kernel_rfl) ?y53 ?h53
      case q53 => (simp only [De.g0, De.g1, De.g2]; rfl)
      case w53 => kernel_rfl
      case y53 => (intro w' hw'; obtain ⟨x1, x2, x3, x4, x5, x6⟩ := hw'; go_simp; (try with_reducible rfl))
      (try simp only [Act.put, De.l0, De.l1, De.l2])
      refine De.MidT.read (o := ?o54) (v := ?v54) 10 (by decide) ?q54 (by kernel_rfl) (by kernel_rfl) ?w54 (by kernel_rfl) ?y54 ?h54
      case q54 => (simp only [De.g0, De.g1, De.g2]; rfl)
      case w54 => kernel_rfl
      case y54 => (intro w' hw'; obtain ⟨x1, x2, x3, x4, x5, x6⟩ := hw'; go_simp; (try with_reducible rfl))
      (try simp only [Act.put, De.l0, De.l1, De.l2])
      refine De.MidT.read (o := ?o55) (v := ?v55) 11 (by decide) ?q55 (by kernel_rfl) (by kernel_rfl) ?w55 (by kernel_rfl) ?y55 ?h55
      case q55 => (simp only [De.g0, De.g1, De.g2]; rfl)
      case w55 => kernel_rfl
      case y55 => (intro w' hw'; obtain ⟨x1, x2, x3, x4, x5, x6⟩ := hw'; go_simp; (try with_reducible rfl))
      (try simp only [Act.put, De.l0, De.l1, De.l2])
      refine De.MidT.read (o := ?o56) (v := ?v56) 12 (by decide) ?q56 (by kernel_rfl) (by kernel_rfl) ?w56 (by kernel_rfl) ?y56 ?h56
      case q56 => (simp only [De.g0, De.g1, De.g2]; rfl)
      case w56 => kernel_rfl
      case y56 => (intro w' hw'; obtain ⟨x1, x2, x3, x4, x5, x6⟩ := hw'; go_simp; (try with_reducible rfl))
      (try simp only [Act.put, De.l0, De.l1, De.l2])
      have hnoS : (fun x => (lk x (S.set d { c with stock := List.zipWith (· - ·) c.stock l, out := c.out ++ [o] }).out).map fun p => Value.agg #[.string p.drawer, updC V d (V (.sizes d)) (V (.stock d)) (.slice (some ⟨gv, 0, none⟩) (c.out.length + 1) capv) (.pack x)]) o = none := by
        show Option.map _ (lk o S.out) = none
        rw [HNO.out]
        rfl
      have hnuS : (fun x => if hasB x (S.set d { c with stock := List.zipWith (· - ·) c.stock l, out := c.out ++ [o] }).used then some (Value.bool true) else none) o = none := by
        show (if hasB o S.used then some (Value.bool true) else none) = none
        rw [HU.out]
        rfl
      have NMM : Hid (mu ≠ mo ∧ mu < wh.heap.size) := ⟨fun e => HH.out.ne_ (r := .used) (r' := .out) (show blkOf (V .used) = some mu by rw [show V .used = updC V d (V (.sizes d)) (V (.stock d)) (.slice (some ⟨gv, 0, none⟩) (c.out.length + 1) capv) .used from rfl, HVU.out]; rfl) (show blkOf (V .out) = some mo by rw [show V .out = updC V d (V (.sizes d)) (V (.stock d)) (.slice (some ⟨gv, 0, none⟩) (c.out.length + 1) capv) .out from rfl, HVO.out]; rfl) (by simp) e, HMU.out.lt⟩
      have NMM2 : Hid (mo < w.heap.size) := HH.out.lt ⟨.out, show blkOf (V .out) = some mo by rw [show V .out = updC V d (V (.sizes d)) (V (.stock d)) (.slice (some ⟨gv, 0, none⟩) (c.out.length + 1) capv) .out from rfl, HVO.out]; rfl⟩
      have KMf : Hid (∀ w' : World, (∀ j, j ≠ mo → j ≠ mu → j < wh.heap.size → w'.heap[j]? = wh.heap[j]?) → w'.cell? ⟨g2, 0, none⟩ = some (.pointer (some ⟨gh, 0, none⟩)) ∧ w'.cell? ⟨gh, 2, none⟩ = some (.map (some mo)) ∧ w'.cell? ⟨gh, 3, none⟩ = some (.map (some mu)) ∧ w'.cell? ⟨g1, 0, none⟩ = some (.string o) ∧ w'.cell? ⟨gp, 0, none⟩ = some (.string d) ∧ w'.cell? ⟨gp, 1, none⟩ = some pv) := fun w' h => by
        have hp : ∀ {k : Nat} {t : TypeId} {cs : Array Value}, Blk wh k t cs → Blk w' k t cs := fun {k t cs} hb => (h k (HMO.out.blk_ne hb) (HMU.out.blk_ne hb) hb.lt).trans hb
        exact ⟨(hp HG2H.out).at_ 0 rfl, (hp HBH.out).at_ 2 rfl, (hp HBH.out).at_ 3 rfl, (hp HG1H.out).at_ 0 rfl, (hp HGPH.out).at_ 0 rfl, (hp HGPH.out).at_ 1 rfl⟩
      (try simp only [Act.put, De.l0, De.l1, De.l2])
      (try refine De.MidT.tail ?_)
      refine De.Tr.one (i := 13) (o := ?o57) (by kernel_rfl) ?q57 ?g57 ?h57
      case q57 => (simp only [De.g0, De.g1, De.g2]; rfl)
      case g57 => rfl
      refine wp_mapentry 108 9 105 _ _ rfl Tryz.underlying108 Tryz.underlying9 zero_parcel mo _ o hnoS rfl rfl HMO.out ?_
      intro wi st hMi hgri
      have sti : ∀ j, j ≠ mo → j < wh.heap.size → wi.heap[j]? = wh.heap[j]? := fun j h1 h2 => hgri.block j h2 (fun e => by have := Option.some.inj e; omega)
      have szi : wh.heap.size ≤ wi.heap.size := hgri.size
      have HXI : Hid (wi.os = wh.os ∧ wi.tape = wh.tape ∧ wi.output = wh.output) := ⟨hgri.os, hgri.tape, hgri.output⟩
      refine ⟨⟨_, rfl⟩, KMf.out wi (fun j h1 _ h3 => sti j h1 h3), ?_⟩
      (try simp only [Act.put, De.l0, De.l1, De.l2])
      refine De.MidT.read2 (o := ?o58) (v := ?v58) 14 (by decide) ?q58 (by kernel_rfl) (by kernel_rfl) ?w58 ?y58 ?h58
      case q58 => (simp only [De.g0, De.g1, De.g2]; rfl)
      case w58 => kernel_rfl
      case y58 => (intro b w' hw'; clear hw'; go_simp; (try with_reducible rfl))
      (try simp only [Act.put, De.l0, De.l1, De.l2])
      (try refine De.MidT.tail ?_)
      refine De.Tr.one (i := 15) (o := ?o59) (by kernel_rfl) ?q59 ?g59 ?h59
      case q59 => (simp only [De.g0, De.g1, De.g2]; rfl)
      case g59 => rfl
      refine wp_entrystore 108 _ _ _ rfl mo _ o st (.agg #[.string d, pv]) rfl rfl rfl hMi ?_
      intro wj hMj hgrj
      have stj : ∀ j, j ≠ mo → j < wh.heap.size → wj.heap[j]? = wh.heap[j]? := fun j h1 h2 => (hgrj.block j (by omega) (fun e => by have := Option.some.inj e; omega)).trans (sti j h1 h2)
      have szj : wh.heap.size ≤ wj.heap.size := Nat.le_trans szi hgrj.size
      have HXJ : Hid (wj.os = wh.os ∧ wj.tape = wh.tape ∧ wj.output = wh.output) := ⟨hgrj.os.trans HXI.out.1, hgrj.tape.trans HXI.out.2.1, hgrj.output.trans HXI.out.2.2⟩
      have HPW : Hid (OwnN wj pv (packsP c.sizes l)) := OwnI.same (own_mono0 HP.out) fun j hj => by
        have h1 := HP.out.ge (by rw [own_blk (own_mono0 HP.out)]; exact hj)
        have h2 := ownI_lt (own_mono0 HP.out) hj
        have h3 := HBW.out.size
        have h4 := NMM2.out
        have h5 := HXG.out.2.2.2
        have h6 := HXH.out.2.2.2
        have h7 := N1.out.2.2.1
        exact (stj j (by omega) (by omega)).trans ((HSH2.out j (by omega)).trans (HSG.out j h2 (fun e => by have := (NO.out j e).2; omega)))
      have HPF : Hid (∀ k, blkOf pv = some k → w9.heap.size ≤ k ∧ ¬ Foot (updC V d (V (.sizes d)) (V (.stock d)) (.slice (some ⟨gv, 0, none⟩) (c.out.length + 1) capv)) k) := fun k hk => by
        have h1 := HP.out.ge (by rw [own_blk (own_mono0 HP.out)]; exact hk)
        have h2 := ownI_lt (own_mono0 HP.out) hk
        have h3 := HBW.out.size
        refine ⟨h1, fun hf => ?_⟩
        rcases foot_updC hf with h | h | h | h
        · have := HH.out.lt ⟨_, h⟩; omega
        · have := HH.out.lt ⟨_, h⟩; omega
        · obtain rfl : gv = k := by injection h
          rcases HAT.out with h4 | h4
          · have := (NO.out gv h4).2; omega
          · omega
        · have := HH.out.lt h; omega
      have HJ := Lib.hid (order_out (p := ⟨d, packsP c.sizes l⟩) HD.out.1 (show lk o S.out = none from HNO.out) HVO.out stj hMj HPW.out (fun k hk => (HPF.out k hk).2))
      clear hgri hgrj sti hMi
      refine ⟨⟨_, rfl⟩, KMf.out wj (fun j h1 _ h3 => stj j h1 h3), ?_⟩
      have hMU2 := HMU.out.same (w' := wj) (stj mu NMM.out.1 NMM.out.2)
      (try simp only [Act.put, De.l0, De.l1, De.l2])
      (try refine De.MidT.tail ?_)
      refine De.Tr.one (i := 16) (o := ?o60) (by kernel_rfl) ?q60 ?g60 ?h60
      case q60 => (simp only [De.g0, De.g1, De.g2]; rfl)
      case g60 => rfl
      refine wp_mapentry 109 9 4 _ _ rfl Tryz.underlying109 Tryz.underlying9 zero_bool mu _ o hnuS rfl rfl hMU2 ?_
      intro wl st2 hMl hgrl
      have stl : ∀ j, j ≠ mo → j ≠ mu → j < wh.heap.size → wl.heap[j]? = wh.heap[j]? := fun j h1 h2 h3 => (hgrl.block j (by omega) (fun e => by have := Option.some.inj e; omega)).trans (stj j h1 h3)
      have hMo2 := hMj.same (w' := wl) (hgrl.block mo hMj.lt (fun e => by have := Option.some.inj e; have := NMM.out.1; omega))
      have szl : wh.heap.size ≤ wl.heap.size := Nat.le_trans szj hgrl.size
      have HXL : Hid (wl.os = wh.os ∧ wl.tape = wh.tape ∧ wl.output = wh.output) := ⟨hgrl.os.trans HXJ.out.1, hgrl.tape.trans HXJ.out.2.1, hgrl.output.trans HXJ.out.2.2⟩
      refine ⟨⟨_, rfl⟩, KMf.out wl stl, ?_⟩
      (try simp only [Act.put, De.l0, De.l1, De.l2])
      refine De.MidT.read2 (o := ?o61) (v := ?v61) 17 (by decide) ?q61 (by kernel_rfl) (by kernel_rfl) ?w61 ?y61 ?h61
      case q61 => (simp only [De.g0, De.g1, De.g2]; rfl)
      case w61 => kernel_rfl
      case y61 => (intro b w' hw'; clear hw'; go_simp; (try with_reducible rfl))
      (try simp only [Act.put, De.l0, De.l1, De.l2])
      (try refine De.MidT.tail ?_)
      refine De.Tr.one (i := 18) (o := ?o62) (by kernel_rfl) ?q62 ?g62 ?h62
      case q62 => (simp only [De.g0, De.g1, De.g2]; rfl)
      case g62 => rfl
      refine wp_entrystore 109 _ _ _ rfl mu _ o st2 (.bool true) rfl rfl rfl hMl ?_
      intro wm hMm hgrm
      have stm : ∀ j, j ≠ mo → j ≠ mu → j < wh.heap.size → wm.heap[j]? = wh.heap[j]? := fun j h1 h2 h3 => (hgrm.block j (by omega) (fun e => by have := Option.some.inj e; omega)).trans (stl j h1 h2 h3)
      have hMo3 := hMo2.same (w' := wm) (hgrm.block mo hMo2.lt (fun e => by have := Option.some.inj e; have := NMM.out.1; omega))
      have HXM : Hid (wm.os = wh.os ∧ wm.tape = wh.tape ∧ wm.output = wh.output ∧ wh.heap.size ≤ wm.heap.size) := ⟨hgrm.os.trans HXL.out.1, hgrm.tape.trans HXL.out.2.1, hgrm.output.trans HXL.out.2.2, Nat.le_trans szl hgrm.size⟩
      have HSM := Lib.hid stm
      have HF := Lib.hid (order_used HJ.out (show (Vals.put _ _ _) .used = _ from HVU.out) (fun j h1 h2 => (hgrm.block j (Nat.lt_of_lt_of_le h2 hgrl.size) (fun e => by have := Option.some.inj e; omega)).trans (hgrl.block j h2 (fun e => by have := Option.some.inj e; omega))) hMm)
      have HMO3 := Lib.hid hMo3
      have HMU3 := Lib.hid hMm
      clear hgrl hgrm stm stl stj szi szj szl hMo3 hMm hMo2 hMl hMj hMU2
      refine ⟨⟨_, rfl⟩, trivial, ?_⟩
      (try refine De.MidT.tail ?_)
      refine De.Tr.done (by kernel_rfl) ?_
      (try simp only [Act.put, De.l0, De.l1, De.l2])
      go_wp2_with (fail)
      have LT : ∀ {r : Role} {j : Nat}, blkOf (V r) = some j → j < w.heap.size := fun h => HH.out.lt ⟨_, h⟩
      obtain ⟨V1, hV1⟩ : ∃ V1, updC V d (V (.sizes d)) (V (.stock d)) (.slice (some ⟨gv, 0, none⟩) (c.out.length + 1) capv) = V1 := ⟨_, rfl⟩
      have FT1 : ∀ i, Foot V1 i → i < w.heap.size ∨ wr.heap.size ≤ i := fun i hi => by
        rw [← hV1] at hi
        rcases foot_updC hi with h | h | h | h
        · exact Or.inl (LT h)
        · exact Or.inl (LT h)
        · obtain rfl : gv = i := by injection h
          rcases HAT.out with h4 | h4
          · exact Or.inl (LT h4)
          · exact Or.inr h4
        · exact Or.inl (HH.out.lt h)
      have e1 : V1 .house = V .house := by rw [← hV1]; rfl
      have e2 : V1 (.chest d) = V (.chest d) := by rw [← hV1]; rfl
      have HDF := HD.out.2
      have HFF := HF.out
      have HPV := HPF.out
      rw [hV1] at HDF HFF HPV
      have z1 := HBW.out.size
      have z2 := hEX.out.2.2.2
      have z3 := HXG.out.2.2.2
      have z4 := HXH.out.2.2.2
      have z5 := HXM.out.2.2.2
      have z6 := HB9.out.size
      have z7 := HK.out.be.size
      have z8 := HB4.out.size
      have FT3 : ∀ i, Foot (V1.put (.pack o) pv) i → Foot V1 i ∨ w9.heap.size ≤ i := fun i hi => by
        rcases foot_put hi with h | h
        · exact Or.inr (HPV i h).1
        · exact Or.inl h
      have nmo := NMM2.out
      have nmu : mu < w.heap.size := LT (r := .used) (show blkOf (V .used) = some mu by rw [show V .used = updC V d (V (.sizes d)) (V (.stock d)) (.slice (some ⟨gv, 0, none⟩) (c.out.length + 1) capv) .used from rfl, HVU.out]; rfl)
      have FRM : Frm (Foot V) w (Foot (V1.put (.pack o) pv)) wm := ⟨HXM.out.1.trans HDF.os, HXM.out.2.1.trans HDF.tape, HXM.out.2.2.1.trans HDF.output, by omega, fun j hj hn => (HSM.out j (fun e => hn ⟨.out, show blkOf (V .out) = some j by rw [show V .out = updC V d (V (.sizes d)) (V (.stock d)) (.slice (some ⟨gv, 0, none⟩) (c.out.length + 1) capv) .out from rfl, HVO.out, e]; rfl⟩) (fun e => hn ⟨.used, show blkOf (V .used) = some j by rw [show V .used = updC V d (V (.sizes d)) (V (.stock d)) (.slice (some ⟨gv, 0, none⟩) (c.out.length + 1) capv) .used from rfl, HVU.out, e]; rfl⟩) (by omega)).trans (HDF.block j hj hn), fun i hi => by
        rcases FT3 i hi with h | h
        · exact HDF.foot i h
        · exact Or.inr (by omega)⟩
      rw [← HPO.out, show doP S (.order o d n) = (0, { S.set d { c with stock := List.zipWith (· - ·) c.stock l, out := c.out ++ [o] } with out := S.out ++ [(o, ⟨d, packsP c.sizes l⟩)], used := S.used ++ [o] }) by simp [doP, HU.out, HKC.out, HSH.out, HFL.out]]
      refine Or.inr ⟨rfl, _, _, V1.put (.pack o) pv, rfl, HFF, e1, FRM, enters_of Tryz.func232 (by kernel_rfl) rfl, fun w'' hb'' => ?_⟩
      have z9 := hb''.size
      have NEWB : ∀ j, w.heap.size ≤ j → j < w5.heap.size → w''.heap[j]? = w5.heap[j]? := fun j h1 h2 => (hb''.block j (by omega) (Or.inl h1)).trans ((HSM.out j (by omega) (by omega) (by omega)).trans ((HSH2.out j (by have := N1.out.2.2.1; omega)).trans ((HSG.out j (by omega) (fun e => by have := LT e; omega)).trans (FR.out j h2 (by have := HKP.out; omega)))))
      have NFT : ∀ j, w.heap.size ≤ j → j < w5.heap.size → ¬ Foot (V1.put (.pack o) pv) j := fun j h1 h2 hf => by
        rcases FT3 j hf with h | h
        · rcases FT1 j h with h | h <;> omega
        · omega
      have K := HK.out
      have hs1 : ∀ i, blkOf ws = some i → w4.heap.size ≤ i ∧ i < w5.heap.size := fun i hi => ⟨K.sizes.2 i hi, ownI_lt K.sizes.1 hi⟩
      have hs2 : ∀ i, blkOf wk = some i → w4.heap.size ≤ i ∧ i < w5.heap.size := fun i hi => ⟨K.stock.2 i hi, ownI_lt K.stock.1 hi⟩
      have hs3 : ∀ i, blkOf wo = some i → w4.heap.size ≤ i ∧ i < w5.heap.size := fun i hi => ⟨K.out.2 i hi, ownS_lt K.out.1 hi⟩
      have l3 := K.b1.lt
      have l4 := K.b2.lt
      have m3 := K.n1
      have m4 := K.n2
      have q1 := HE1.out
      have q2 := HG14.out.lt
      have q3 := HG24.out.lt
      have g6p : g6 ≠ gp := fun e => by
        have h1 : w9.heap[g6]? = _ := HG69.out
        have h2 : w9.heap[gp]? = _ := HG9.out
        rw [e, h2] at h1
        injection h1 with h1
        injection h1 with _ h1
        cases h1
      have g6l := HG69.out.lt
      have g65 : w5.heap.size ≤ g6 := HG6G.out
      have U6 : Blk w'' g6 1 #[undoF g4 g3] := (hb''.block g6 (by omega) (Or.inl (by omega))).trans ((HSM.out g6 (by omega) (by omega) (by omega)).trans ((HSH2.out g6 (by have := N1.out.2.2.1; omega)).trans ((HSG.out g6 (by omega) (fun e => by have := LT e; omega)).trans ((hFA.out g6 g6l (by have := HKP.out; omega) g6p).trans HG69.out))))
      have U2 : Blk w'' g2 37 #[.pointer (some ⟨gh, 0, none⟩)] := (hb''.block g2 (by omega) (Or.inl (by omega))).trans ((HSM.out g2 (by omega) (by omega) (by omega)).trans HG2H.out)
      have U1 : Blk w'' g1 212 #[.string o, .string d, .int .i64 (n : Int)] := (hb''.block g1 (by omega) (Or.inl (by omega))).trans ((HSM.out g1 (by omega) (by omega) (by omega)).trans HG1H.out)
      refine (order_back (out' := S.out) (used' := S.used) (HFF.later hb'' FRM.foot) (show lk d (setA d _ S.chests) = some _ by rw [lk_setA HKC.out, if_pos rfl]) (show V1 (.chest d) = _ from e2.trans HG.out) ((NEWB g3 (by omega) l3).trans K.b1) ((NEWB g4 (by omega) l4).trans K.b2)
        (OwnI.same K.sizes.1 fun j hj => NEWB j (by have := hs1 j hj; omega) (hs1 j hj).2) (OwnI.same K.stock.1 fun j hj => NEWB j (by have := hs2 j hj; omega) (hs2 j hj).2) (OwnS.same K.out.1 fun j hj => NEWB j (by have := hs3 j hj; omega) (hs3 j hj).2)
        (fun i hi => NFT i (by have := hs1 i hi; omega) (hs1 i hi).2) (fun i hi => NFT i (by have := hs2 i hi; omega) (hs2 i hi).2) (fun i hi => NFT i (by have := hs3 i hi; omega) (hs3 i hi).2) K.d1 K.d2 K.d3 U6 U2 U1 (show V1 .house = _ from e1.trans HVH.out) (NFT g1 q1.1 (by omega)) (NFT g2 q1.2.1 (by omega))
        (fun x hx => (show lk x (S.out ++ [(o, _)]) = lk x S.out by rw [lk_append HNO.out, if_neg hx]).symm) HNO.out (fun x => by
          show hasB x S.used = if x = o then false else hasB x (S.used ++ [o])
          rw [hasB_append]
          by_cases hx : x = o
          · rw [if_pos hx, hx, HU.out]
          · rw [if_neg hx]
            simp [hx])).mono ?_
      rintro e w3 ⟨rfl, hH3, ⟨a1, a2, a3, a4⟩, hfar⟩
      refine ⟨rfl, (updC (V1.put (.pack o) pv) d ws wk wo).put (.pack o) (.slice none 0 0), ?_, ?_, ?_⟩
      rotate_left
      · show V1 .house = _
        exact e1
      · refine ⟨a1, a2, a3, a4, fun j hj hn => hfar j (by omega) (fun hf => ?_), fun i hi => ?_⟩
        · rcases FRM.foot j hf with h | h
          · exact hn h
          · omega
        · rcases foot_put hi with h | h
          · cases h
          · rcases foot_updC h with h | h | h | h
            · have := hs1 i h; exact Or.inr (by omega)
            · have := hs2 i h; exact Or.inr (by omega)
            · have := hs3 i h; exact Or.inr (by omega)
            · exact FRM.foot i h
      · have e : House.mk ((S.set d { c with stock := List.zipWith (· - ·) c.stock l, out := c.out ++ [o] }).set d c).chests S.out S.used = S := by rw [set_back HKC.out]
        rw [← e]
        exact hH3
end
end Dr
end Go.Proofs.YtbgakdpbglpfaaaGreatDoor
