/- The texts DrY to DrOa, joined by joinlist.py: their statements say what each proves. -/
import Derived.Test.YtbgakdpbglpfaaaGreatDoorJdv
import Derived.Laws.EntriesVeiled
-- the text DrY
namespace Go.Proofs.YtbgakdpbglpfaaaGreatDoor
open Go.RowKit
namespace Dr
open Bu (natI)
set_option linter.unusedSimpArgs false
section
variable {w w' : World} {base : Nat} {v : Value} {xs : List Int}
theorem wp_spread {o : Oper} {a : Act} {K : Act → World → Prop} {Q : Exit → Act → World → Prop} (s x : Operand)
    (ho : o.op = .call { callee := .builtin .append, args := #[s, x], argTypes := #[40, 40] }) (hs : a.eval s = v) (hown : OwnI w base v xs)
    (gr m c : Nat) (hx : a.eval x = .slice (some ⟨gr, 0, none⟩) m c) (ys : List Int) (hl : ys.length = m) (hB : ∀ (j : Nat) (y : Int), ys[j]? = some y → w.cell? ⟨gr, j, none⟩ = some (.int .i64 y)) (hlen : xs.length + m ≤ 1000000000) (hbase : base ≤ w.heap.size)
    (h : ∀ (v' : Value) (w' : World), OwnI w' base v' (xs ++ ys) → w.grownBy w' v.ownBlock → K (a.put o.dst v') w') : o.wp Tryz.prog a w K Q := by
  obtain ⟨i0, hi0, hz0, hz1, hz2⟩ := info_parts infoInt
  obtain ⟨v', w', hr, h1, h2, _⟩ := run_append_own (P := Tryz.prog) w base 40 o.type 3 i0 (.int .i64 0) 1 8 Tryz.underlying40 hi0 hz0 hz1 hz2 rfl (by decide) v xs.length (ints xs) hown ⟨gr, 0, none⟩ m c (ints ys) (by simp [ints, hl]) (fun j u hj => by
      simp only [ints, List.getElem?_map, Option.map_eq_some_iff] at hj
      obtain ⟨y, hy, rfl⟩ := hj
      have e : (⟨gr, 0, none⟩ : Addr).add j = ⟨gr, j, none⟩ := by unfold Addr.add; split <;> simp_all
      rw [e]
      exact hB j y hy) (fun u hu => by
      obtain ⟨y, _, rfl⟩ := List.mem_map.1 hu
      rfl) (by simp only [maxLen]; omega) (by omega) hbase
  unfold Oper.wp execOp
  simp only [ho, resolve, invoke, builtin, Sem.run_bind, Sem.run_pure, Result.andThen_ok, List.map_toArray, List.map_cons, List.map_nil, hs, hx, hr, Oper.upon_value]
  refine h v' w' ?_ h2
  unfold OwnI
  rw [ints_append, List.length_append, hl]
  exact h1
end
theorem repeat_any (b off cap s n : Nat) (hn : n ≤ 40) (w : World) (hc : w.cell? ⟨b, off, none⟩ = some (.int .i64 (s : Int))) (hbl : b < w.heap.size) : Calls Tryz.prog 231 #[.slice (some ⟨b, off, none⟩) 1 cap, .int .i64 (n : Int)] w fun e w' => (∃ gr, e = .returned (.slice (some ⟨gr, 0, none⟩) n n) ∧ ∀ (j : Nat) (y : Int), (natI (List.replicate n s))[j]? = some y → w'.cell? ⟨gr, j, none⟩ = some (.int .i64 y)) ∧ Below w.heap.size w w' := by
  by_cases h1 : 1 ≤ n
  · refine (repeat_some b off cap s n hn h1 w hc hbl).mono ?_
    rintro e w' ⟨⟨gr, rfl, _, hR⟩, hb⟩
    refine ⟨⟨gr, rfl, fun j y hy => ?_⟩, hb⟩
    simp only [natI, List.map_replicate, List.getElem?_replicate] at hy
    split at hy
    · rename_i hj
      injection hy with hy
      subst hy
      exact hR.at_ j (repRow_at hj)
    · cases hy
  · obtain rfl : n = 0 := by omega
    refine (repeat_none _ cap w).mono ?_
    rintro e w' ⟨⟨gr, rfl⟩, hb⟩
    exact ⟨⟨gr, rfl, fun j y hy => by simp [natI] at hy⟩, hb⟩
section
variable {w : World} {V : Vals} {S : House}
set_option maxRecDepth 100000 in
theorem ordering_lost (H : HouseAt w V S) (hS : Oks S) (o d : ByteArray) (n : Nat) (hn : n ≤ 1000) (hu : hasB o S.used = false) {c : Chest} (hk : lk d S.chests = some c) (hs : c.shut = false) (hor : openR V S d = .tuple #[V (.chest d), .int .i64 0]) (hf : fillP c.sizes c.stock n = none) :
    Calls Tryz.prog 229 #[.agg #[.string o, .string d, .int .i64 (n : Int)], V .house] w (DoPost V S w (doP S (.order o d n))) := by
  have hco := hS d c hk
  obtain ⟨⟨g, hg, hB⟩, hsz, hst, hou⟩ := H.ch d c hk
  have HOP : Hid (∀ w', Below w.heap.size w w' → Calls Tryz.prog 216 #[V .house, .string d] w' fun e w2 => w2 = w' ∧ e = .returned (.tuple #[.pointer (some ⟨g, 0, none⟩), .int .i64 0])) := fun w' hb => by
    have h := open_any (H.callee hb) d
    rw [hor, hg] at h
    exact h
  have HFI : Hid (∀ w', Below w.heap.size w w' → Calls Tryz.prog 230 #[V (.sizes d), V (.stock d), .int .i64 (n : Int)] w' fun e w2 => (∃ v E, e = .returned (.tuple #[v, .int .i64 E]) ∧ E ≠ 0) ∧ Below w'.heap.size w' w2) := fun w' hb => by
    have h := fill_any hco (OwnI.callee hsz hb) (OwnI.callee hst hb) n hn
    rw [hf] at h
    exact h
  obtain ⟨gh, hV, hBh⟩ := H.hs
  obtain ⟨gu, hVu, _⟩ := H.mu
  have HLK : Hid (∀ (w' : World), Below w.heap.size w w' → (Instr.lookup 109 (.map (some gu)) (.string o) false).run Tryz.prog w' = .ok (.bool false) w') := fun w' hb => by
    have h := H.lookU (fun g hg => hb.block g (H.lt hg)) hVu o
    rw [hu] at h
    exact h
  have c1 : w.cell? ⟨gh, 3, none⟩ = some (.map (some gu)) := by rw [← hVu]; exact hBh.cell 3
  have hgh := hBh.lt
  have hgl := hB.lt
  have HP : Hid (∀ e w', e = .returned (.tuple #[.nilFunc, .int .i64 12]) → Below w.heap.size w w' → DoPost V S w (doP S (.order o d n)) e w') := fun e w' he hb => by
    rw [show doP S (.order o d n) = (12, S) by simp [doP, hu, hk, hs, hf]]
    exact .no H (by simp) he hb
  obtain ⟨A, cc, hVs, _⟩ := ownN_form hsz
  obtain ⟨B, ck, hVk, _⟩ := ownN_form hst
  rw [hV] at HOP ⊢
  generalize hPo : DoPost V S w (doP S (.order o d n)) = Po at HP ⊢
  have HBB := Lib.hid hB
  rw [hVs, hVk] at HBB HFI
  generalize c.sizes.length = ns at HBB HFI
  generalize c.stock.length = nk at HBB HFI
  clear hPo hV hB hBh H hu hVu hk hs hor hf hS hco hg hsz hst hou hVs hVk
  go_enter Tryz.func229, Tryz.ntmps229
  go_wp2_with (first
    | (with_reducible show wpList _ _ _ (⟨_, .box 212 _, _, _, _, _⟩ :: _) _ _
       refine wpList_box_cells rfl 212 _ rfl (.agg #[.string o, .string d, .int .i64 (n : Int)]) #[.string o, .string d, .int .i64 (n : Int)] rfl rfl ?_
       intro w1 g1 hG1 hgr1 hge1
       have hb1 := below_grown hgr1)
    | (with_reducible show wpList _ _ _ (⟨_, .box 37 _, _, _, _, _⟩ :: _) _ _
       refine wpList_box_cells rfl 37 _ rfl (.pointer (some ⟨gh, 0, none⟩)) #[.pointer (some ⟨gh, 0, none⟩)] rfl rfl ?_
       intro w2 g2 hG2 hgr2 hge2
       have hb12 := below_grown hgr2
       have hb2 := hb1.trans (hb12.mono hb1.size)
       have HG1 := Lib.hid (Blk.callee hG1 hb12)
       have d0 : w2.cell? ⟨g1, 0, none⟩ = some (.string o) := (Blk.callee hG1 hb12).at_ 0 rfl
       have d01 : w2.cell? ⟨g1, 1, none⟩ = some (.string d) := (Blk.callee hG1 hb12).at_ 1 rfl
       have d1 : w2.cell? ⟨g2, 0, none⟩ = some (.pointer (some ⟨gh, 0, none⟩)) := hG2.at_ 0 rfl
       have d2 : w2.cell? ⟨gh, 3, none⟩ = some (.map (some gu)) := (hb2.cell (p := ⟨gh, 3, none⟩) hgh).trans c1
       have d4 := fun q => HLK.out (w2.drewN q) (below_drewN hb2 q)))
  have HB2 := Lib.hid hb2
  clear hb1 hgr1 hb12 hgr2 hb2 c1 hG1 hG2
  go_quiet (fail)
  go_wp2_with (go_at_call 216; (with_reducible refine (HOP.out _ (below_drewN HB2.out _)).mono ?_); rintro e w3 ⟨hw3, rfl⟩; replace hw3 := hw3.symm; subst hw3)
  have HB3 : Hid (Below w.heap.size w (w2.drewN nq)) := below_drewN HB2.out _
  have KF : Hid ((w2.drewN nq).cell? ⟨g, 0, none⟩ = some (.slice A ns cc) ∧ (w2.drewN nq).cell? ⟨g, 1, none⟩ = some (.slice B nk ck) ∧ (w2.drewN nq).cell? ⟨g1, 2, none⟩ = some (.int .i64 (n : Int))) :=
    ⟨(HBB.out.callee HB3.out).at_ 0 rfl, (HBB.out.callee HB3.out).at_ 1 rfl, HG1.out.at_ 2 rfl⟩
  clear d0 d01 d1 d2 d4
  refine De.region_tree (fun b w' => bif b then (True) else (w'.cell? ⟨g, 0, none⟩ = some (.slice A ns cc) ∧ w'.cell? ⟨g, 1, none⟩ = some (.slice B nk ck) ∧ w'.cell? ⟨g1, 2, none⟩ = some (.int .i64 (n : Int)))) 10 1 (by kernel_rfl) (by kernel_rfl) (by decide) KF.out ?_
  (try simp only [Act.put, De.l0, De.l1, De.l2])
  refine De.MidT.read (o := ?o1) (v := ?v1) 0 (by decide) ?q1 (by kernel_rfl) (by kernel_rfl) ?w1 (by kernel_rfl) ?y1 ?h1
  case q1 => (simp only [De.g0, De.g1, De.g2]; rfl)
  case w1 => kernel_rfl
  case y1 => (intro w' hw'; obtain ⟨x1, x2, x3⟩ := hw'; go_simp; (try with_reducible rfl))
  (try simp only [Act.put, De.l0, De.l1, De.l2])
  refine De.MidT.read (o := ?o2) (v := ?v2) 1 (by decide) ?q2 (by kernel_rfl) (by kernel_rfl) ?w2 (by kernel_rfl) ?y2 ?h2
  case q2 => (simp only [De.g0, De.g1, De.g2]; rfl)
  case w2 => kernel_rfl
  case y2 => (intro w' hw'; obtain ⟨x1, x2, x3⟩ := hw'; go_simp; (try with_reducible rfl))
  (try simp only [Act.put, De.l0, De.l1, De.l2])
  refine De.MidT.read (o := ?o3) (v := ?v3) 2 (by decide) ?q3 (by kernel_rfl) (by kernel_rfl) ?w3 (by kernel_rfl) ?y3 ?h3
  case q3 => (simp only [De.g0, De.g1, De.g2]; rfl)
  case w3 => kernel_rfl
  case y3 => (intro w' hw'; obtain ⟨x1, x2, x3⟩ := hw'; go_simp; (try with_reducible rfl))
  (try simp only [Act.put, De.l0, De.l1, De.l2])
  refine De.MidT.read (o := ?o4) (v := ?v4) 3 (by decide) ?q4 (by kernel_rfl) (by kernel_rfl) ?w4 (by kernel_rfl) ?y4 ?h4
  case q4 => (simp only [De.g0, De.g1, De.g2]; rfl)
  case w4 => kernel_rfl
  case y4 => (intro w' hw'; obtain ⟨x1, x2, x3⟩ := hw'; go_simp; (try with_reducible rfl))
  (try simp only [Act.put, De.l0, De.l1, De.l2])
  refine De.MidT.read (o := ?o5) (v := ?v5) 4 (by decide) ?q5 (by kernel_rfl) (by kernel_rfl) ?w5 (by kernel_rfl) ?y5 ?h5
  case q5 => (simp only [De.g0, De.g1, De.g2]; rfl)
  case w5 => kernel_rfl
  case y5 => (intro w' hw'; obtain ⟨x1, x2, x3⟩ := hw'; go_simp; (try with_reducible rfl))
  (try simp only [Act.put, De.l0, De.l1, De.l2])
  refine De.MidT.read (o := ?o6) (v := ?v6) 5 (by decide) ?q6 (by kernel_rfl) (by kernel_rfl) ?w6 (by kernel_rfl) ?y6 ?h6
  case q6 => (simp only [De.g0, De.g1, De.g2]; rfl)
  case w6 => kernel_rfl
  case y6 => (intro w' hw'; obtain ⟨x1, x2, x3⟩ := hw'; go_simp; (try with_reducible rfl))
  (try simp only [Act.put, De.l0, De.l1, De.l2])
  refine De.MidT.read (o := ?o7) (v := ?v7) 6 (by decide) ?q7 (by kernel_rfl) (by kernel_rfl) ?w7 (by kernel_rfl) ?y7 ?h7
  case q7 => (simp only [De.g0, De.g1, De.g2]; rfl)
  case w7 => kernel_rfl
  case y7 => (intro w' hw'; obtain ⟨x1, x2, x3⟩ := hw'; go_simp; (try with_reducible rfl))
  (try simp only [Act.put, De.l0, De.l1, De.l2])
  refine De.MidT.read (o := ?o8) (v := ?v8) 7 (by decide) ?q8 (by kernel_rfl) (by kernel_rfl) ?w8 (by kernel_rfl) ?y8 ?h8
  case q8 => (simp only [De.g0, De.g1, De.g2]; rfl)
  case w8 => kernel_rfl
  case y8 => (intro w' hw'; obtain ⟨x1, x2, x3⟩ := hw'; go_simp; (try with_reducible rfl))
  (try simp only [Act.put, De.l0, De.l1, De.l2])
  refine De.MidT.read (o := ?o9) (v := ?v9) 8 (by decide) ?q9 (by kernel_rfl) (by kernel_rfl) ?w9 (by kernel_rfl) ?y9 ?h9
  case q9 => (simp only [De.g0, De.g1, De.g2]; rfl)
  case w9 => kernel_rfl
  case y9 => (intro w' hw'; obtain ⟨x1, x2, x3⟩ := hw'; go_simp; (try with_reducible rfl))
  (try simp only [Act.put, De.l0, De.l1, De.l2])
  refine De.MidT.read (o := ?o10) (v := ?v10) 9 (by decide) ?q10 (by kernel_rfl) (by kernel_rfl) ?w10 (by kernel_rfl) ?y10 ?h10
  case q10 => (simp only [De.g0, De.g1, De.g2]; rfl)
  case w10 => kernel_rfl
  case y10 => (intro w' hw'; obtain ⟨x1, x2, x3⟩ := hw'; go_simp; (try with_reducible rfl))
  (try simp only [Act.put, De.l0, De.l1, De.l2])
  (try refine De.MidT.tail ?_)
  refine De.Tr.one (i := 10) (o := ?o11) (by kernel_rfl) ?q11 ?g11 ?h11
  case q11 => (simp only [De.g0, De.g1, De.g2]; rfl)
  case g11 => rfl
  refine wp_enterK 230 #[.slice A ns cc, .slice B nk ck, .int .i64 (n : Int)] (by go_simp) (HFI.out _ HB3.out.drew) ?_
  rintro e w4 ⟨⟨v, E, rfl, hE⟩, hb4⟩
  refine ⟨_, rfl, ⟨_, rfl⟩, trivial, ?_⟩
  have hE2 : (E != 0) = true := by simpa using hE
  have hE3 : (E == 0) = false := by simpa using hE
  have HB4 : Hid (Below w.heap.size w w4) := HB3.out.drew.trans (hb4.mono HB3.out.drew.size)
  clear hb4 hE
  (try simp only [Act.put, De.l0, De.l1, De.l2])
  refine De.MidT.read2 (o := ?o12) (v := ?v12) 11 (by decide) ?q12 (by kernel_rfl) (by kernel_rfl) ?w12 ?y12 ?h12
  case q12 => (simp only [De.g0, De.g1, De.g2]; rfl)
  case w12 => kernel_rfl
  case y12 => (intro b w' hw'; clear hw'; go_simp; (try with_reducible rfl))
  (try simp only [Act.put, De.l0, De.l1, De.l2])
  refine De.MidT.read2 (o := ?o13) (v := ?v13) 12 (by decide) ?q13 (by kernel_rfl) (by kernel_rfl) ?w13 ?y13 ?h13
  case q13 => (simp only [De.g0, De.g1, De.g2]; rfl)
  case w13 => kernel_rfl
  case y13 => (intro b w' hw'; clear hw'; go_simp; (try with_reducible rfl))
  (try simp only [Act.put, De.l0, De.l1, De.l2])
  refine De.MidT.read2 (o := ?o14) (v := ?v14) 13 (by decide) ?q14 (by kernel_rfl) (by kernel_rfl) ?w14 ?y14 ?h14
  case q14 => (simp only [De.g0, De.g1, De.g2]; rfl)
  case w14 => kernel_rfl
  case y14 => (intro b w' hw'; clear hw'; go_simp; (try with_reducible rfl))
  (try simp only [Act.put, De.l0, De.l1, De.l2])
  refine De.MidT.read2 (o := ?o15) (v := ?v15) 14 (by decide) ?q15 (by kernel_rfl) (by kernel_rfl) ?w15 ?y15 ?h15
  case q15 => (simp only [De.g0, De.g1, De.g2]; rfl)
  case w15 => kernel_rfl
  case y15 => (intro b w' hw'; clear hw'; go_simp; (try with_reducible rfl))
  (try simp only [Act.put, De.l0, De.l1, De.l2])
  refine De.MidT.read2 (o := ?o16) (v := ?v16) 15 (by decide) ?q16 (by kernel_rfl) (by kernel_rfl) ?w16 ?y16 ?h16
  case q16 => (simp only [De.g0, De.g1, De.g2]; rfl)
  case w16 => kernel_rfl
  case y16 => (intro b w' hw'; clear hw'; go_simp; (try with_reducible rfl))
  (try simp only [Act.put, De.l0, De.l1, De.l2])
  (try refine De.MidT.tail ?_)
  refine De.Tr.done (by kernel_rfl) ?_
  (try simp only [Act.put, De.l0, De.l1, De.l2])
  go_wp2_with (fail)
  exact HP.out _ _ rfl HB4.out
end
end Dr
end Go.Proofs.YtbgakdpbglpfaaaGreatDoor
-- the text DrO
namespace Go.Proofs.YtbgakdpbglpfaaaGreatDoor
open Go.RowKit
namespace Dr
set_option linter.unusedSimpArgs false
def undoF (g4 g3 : Nat) : Value := .func (.func 219) #[] #[.pointer (some ⟨g4, 0, none⟩), .pointer (some ⟨g3, 0, none⟩)]
section
variable {w : World} {V : Vals} {S : House}
set_option maxRecDepth 100000 in
theorem order_back {o d : ByteArray} {n : Int} {c c0 : Chest} {g g1 g2 g3 g4 g6 gh : Nat} {ws wk wo : Value} {out' : List (ByteArray × Parcel)} {used' : List ByteArray} (H : HouseAt w V S) (hk : lk d S.chests = some c0) (hg : V (.chest d) = .pointer (some ⟨g, 0, none⟩))
    (b1 : Blk w g3 98 #[.pointer (some ⟨g, 0, none⟩)]) (b2 : Blk w g4 103 (chestV ws wk wo c)) (o1 : OwnN w ws c.sizes) (o2 : OwnN w wk c.stock) (o3 : OwnT w wo c.out)
    (f1 : ∀ i, blkOf ws = some i → ¬ Foot V i) (f2 : ∀ i, blkOf wk = some i → ¬ Foot V i) (f3 : ∀ i, blkOf wo = some i → ¬ Foot V i) (d1 : Apart ws wk) (d2 : Apart ws wo) (d3 : Apart wk wo)
    (u6 : Blk w g6 1 #[undoF g4 g3]) (u2 : Blk w g2 37 #[.pointer (some ⟨gh, 0, none⟩)]) (u1 : Blk w g1 212 #[.string o, .string d, .int .i64 n]) (hgh : V .house = .pointer (some ⟨gh, 0, none⟩))
    (n1 : ¬ Foot V g1) (n2 : ¬ Foot V g2) (hl : ∀ x, x ≠ o → lk x out' = lk x S.out) (hno : lk o out' = none) (hu : ∀ x, hasB x used' = if x = o then false else hasB x S.used) :
    Calls Tryz.prog 232 #[.pointer (some ⟨g6, 0, none⟩), .pointer (some ⟨g2, 0, none⟩), .pointer (some ⟨g1, 0, none⟩)] w fun e w' => e = .returned (.tuple #[]) ∧ HouseAt w' ((updC V d ws wk wo).put (.pack o) (.slice none 0 0)) { S.set d c with out := out', used := used' } ∧
      (w'.os = w.os ∧ w'.tape = w.tape ∧ w'.output = w.output ∧ w.heap.size ≤ w'.heap.size) ∧ ∀ j, j < w.heap.size → ¬ Foot V j → w'.heap[j]? = w.heap[j]? := by
  have HUN := Lib.hid (undo_chest H hk hg b1 b2 o1 o2 o3 f1 f2 f3 d1 d2 d3)
  obtain ⟨V2, hV2⟩ : ∃ V2, updC V d ws wk wo = V2 := ⟨_, rfl⟩
  rw [hV2] at HUN ⊢
  have HE1 : Hid (V2 .house = V .house) := by rw [← hV2]; rfl
  have HE2 : Hid (V2 .out = V .out) := by rw [← hV2]; rfl
  have HE3 : Hid (V2 .used = V .used) := by rw [← hV2]; rfl
  clear hV2
  have c6 : w.cell? ⟨g6, 0, none⟩ = some (.func (.func 219) #[] #[.pointer (some ⟨g4, 0, none⟩), .pointer (some ⟨g3, 0, none⟩)]) := u6.at_ 0 rfl
  have HH := Lib.hid H
  have HG := Lib.hid hg
  have U2 := Lib.hid u2
  have U1 := Lib.hid u1
  have HGH := Lib.hid hgh
  clear H hk hg b1 b2 o1 o2 o3 f1 f2 f3 d1 d2 d3 u6 u2 u1 hgh
  go_enter Tryz.func232, Tryz.ntmps232
  go_wp2_with (first
    | (go_at_call 219; (with_reducible refine HUN.out.mono ?_); rintro e w2 ⟨rfl, hH2, hgr2⟩))
  obtain ⟨mo, hVo, hMo⟩ := hH2.mo
  obtain ⟨mu, hVu, hMu⟩ := hH2.mu
  obtain ⟨gh', hVh, hBh⟩ := hH2.hs
  rw [HE1.out, HGH.out] at hVh
  obtain rfl : gh = gh' := by injection hVh with h; injection h with h; injection h
  rw [hVo, hVu] at hBh
  have bg : blkOf (V (.chest d)) = some g := by rw [HG.out]; rfl
  have hg1 : g1 ≠ g := fun e => n1 ⟨_, by rw [e]; exact bg⟩
  have hg2 : g2 ≠ g := fun e => n2 ⟨_, by rw [e]; exact bg⟩
  have U12 : Hid (Blk w2 g1 212 #[.string o, .string d, .int .i64 n]) := (hgr2.block g1 U1.out.lt (fun e => hg1 (Option.some.inj e))).trans U1.out
  have U22 : Hid (Blk w2 g2 37 #[.pointer (some ⟨gh, 0, none⟩)]) := (hgr2.block g2 U2.out.lt (fun e => hg2 (Option.some.inj e))).trans U2.out
  have HH2 := Lib.hid hH2
  have HGR2 := Lib.hid hgr2
  have HMO := Lib.hid hMo
  have HMU := Lib.hid hMu
  have HVO := Lib.hid hVo
  have HVU := Lib.hid hVu
  have HBH := Lib.hid hBh
  have HBG := Lib.hid bg
  have KM : Hid (w2.cell? ⟨g2, 0, none⟩ = some (.pointer (some ⟨gh, 0, none⟩)) ∧ w2.cell? ⟨gh, 2, none⟩ = some (.map (some mo)) ∧ w2.cell? ⟨g1, 0, none⟩ = some (.string o)) := ⟨U22.out.at_ 0 rfl, HBH.out.at_ 2 rfl, U12.out.at_ 0 rfl⟩
  clear hH2 hgr2 hMo hMu hVo hVu hBh hVh bg c6
  refine De.region_tree (fun b w' => bif b then (True) else (w'.cell? ⟨g2, 0, none⟩ = some (.pointer (some ⟨gh, 0, none⟩)) ∧ w'.cell? ⟨gh, 2, none⟩ = some (.map (some mo)) ∧ w'.cell? ⟨g1, 0, none⟩ = some (.string o))) 6 1 (by kernel_rfl) (by kernel_rfl) (by decide) KM.out ?_
  (try simp only [Act.put, De.l0, De.l1, De.l2])
  refine De.MidT.read (o := ?o1) (v := ?v1) 0 (by decide) ?q1 (by kernel_rfl) (by kernel_rfl) ?w1 (by kernel_rfl) ?y1 ?h1
  case q1 => (simp only [De.g0, De.g1, De.g2]; rfl)
  case w1 => kernel_rfl
  case y1 => (intro w' hw'; obtain ⟨x1, x2, x3⟩ := hw'; go_simp; (try with_reducible rfl))
  (try simp only [Act.put, De.l0, De.l1, De.l2])
  refine De.MidT.read (o := ?o2) (v := ?v2) 1 (by decide) ?q2 (by kernel_rfl) (by kernel_rfl) ?w2 (by kernel_rfl) ?y2 ?h2
  case q2 => (simp only [De.g0, De.g1, De.g2]; rfl)
  case w2 => kernel_rfl
  case y2 => (intro w' hw'; obtain ⟨x1, x2, x3⟩ := hw'; go_simp; (try with_reducible rfl))
  (try simp only [Act.put, De.l0, De.l1, De.l2])
  refine De.MidT.read (o := ?o3) (v := ?v3) 2 (by decide) ?q3 (by kernel_rfl) (by kernel_rfl) ?w3 (by kernel_rfl) ?y3 ?h3
  case q3 => (simp only [De.g0, De.g1, De.g2]; rfl)
  case w3 => kernel_rfl
  case y3 => (intro w' hw'; obtain ⟨x1, x2, x3⟩ := hw'; go_simp; (try with_reducible rfl))
  (try simp only [Act.put, De.l0, De.l1, De.l2])
  refine De.MidT.read (o := ?o4) (v := ?v4) 3 (by decide) ?q4 (by kernel_rfl) (by kernel_rfl) ?w4 (by kernel_rfl) ?y4 ?h4
  case q4 => (simp only [De.g0, De.g1, De.g2]; rfl)
  case w4 => kernel_rfl
  case y4 => (intro w' hw'; obtain ⟨x1, x2, x3⟩ := hw'; go_simp; (try with_reducible rfl))
  (try simp only [Act.put, De.l0, De.l1, De.l2])
  refine De.MidT.read (o := ?o5) (v := ?v5) 4 (by decide) ?q5 (by kernel_rfl) (by kernel_rfl) ?w5 (by kernel_rfl) ?y5 ?h5
  case q5 => (simp only [De.g0, De.g1, De.g2]; rfl)
  case w5 => kernel_rfl
  case y5 => (intro w' hw'; obtain ⟨x1, x2, x3⟩ := hw'; go_simp; (try with_reducible rfl))
  (try simp only [Act.put, De.l0, De.l1, De.l2])
  refine De.MidT.read (o := ?o6) (v := ?v6) 5 (by decide) ?q6 (by kernel_rfl) (by kernel_rfl) ?w6 (by kernel_rfl) ?y6 ?h6
  case q6 => (simp only [De.g0, De.g1, De.g2]; rfl)
  case w6 => kernel_rfl
  case y6 => (intro w' hw'; obtain ⟨x1, x2, x3⟩ := hw'; go_simp; (try with_reducible rfl))
  (try simp only [Act.put, De.l0, De.l1, De.l2])
  (try refine De.MidT.tail ?_)
  refine De.Tr.one (i := 6) (o := ?o7) (by kernel_rfl) ?q7 ?g7 ?h7
  case q7 => (simp only [De.g0, De.g1, De.g2]; rfl)
  case g7 => rfl
  refine wp_mapdel 108 9 105 9 _ _ rfl Tryz.underlying108 Tryz.underlying9 mo _ o rfl rfl HMO.out ?_
  intro w3 hM3 hgr3
  replace hgr3 : w2.drew.grownBy w3 (some mo) := hgr3
  have st3 : ∀ j, j ≠ mo → j < w2.heap.size → w3.heap[j]? = w2.heap[j]? := fun j h1 h2 => hgr3.block j h2 (fun e => h1 (Option.some.inj e))
  have bmo : blkOf (V2 .out) = some mo := by rw [HVO.out]; rfl
  have H3 : HouseAt w3 (V2.put (.pack o) (.slice none 0 0)) { S.set d c with out := out' } := HH2.out.setOut (o := o) (out' := out') (vp := .slice none 0 0) (fun r j hr r1 r2 => st3 j (HH2.out.ne_ hr bmo r1) (HH2.out.lt ⟨r, hr⟩))
    (fun g' hg' => by
      rw [HVO.out] at hg'
      obtain rfl : mo = g' := by injection hg' with h; injection h
      refine hM3.congr fun x => ?_
      by_cases hx : x = o
      · rw [if_pos hx, if_pos hx, hno]
        rfl
      · rw [if_neg hx, if_neg hx]) hl (fun p hp => by rw [hno] at hp; cases hp) (fun _ => rfl) (fun g' hg' => by cases hg')
  have HX3 : Hid (w3.os = w2.os ∧ w3.tape = w2.tape ∧ w3.output = w2.output ∧ w2.heap.size ≤ w3.heap.size) := ⟨hgr3.os, hgr3.tape, hgr3.output, hgr3.size⟩
  have hp3 : ∀ {k : Nat} {t : TypeId} {cs : Array Value}, Blk w2 k t cs → Blk w3 k t cs := fun {k t cs} hb => (st3 k (HMO.out.blk_ne hb) hb.lt).trans hb
  have HMU3 := Lib.hid (HMU.out.same (w' := w3) (st3 mu (HH2.out.ne_ (r := .used) (r' := .out) (by rw [HVU.out]; rfl) bmo (by simp)) HMU.out.lt))
  have KM3 : Hid (w3.cell? ⟨g2, 0, none⟩ = some (.pointer (some ⟨gh, 0, none⟩)) ∧ w3.cell? ⟨gh, 3, none⟩ = some (.map (some mu)) ∧ w3.cell? ⟨g1, 0, none⟩ = some (.string o)) := ⟨(hp3 U22.out).at_ 0 rfl, (hp3 HBH.out).at_ 3 rfl, (hp3 U12.out).at_ 0 rfl⟩
  have HH3 := Lib.hid H3
  have HS3 := Lib.hid st3
  have HBMO := Lib.hid bmo
  clear H3 hgr3 st3 hM3 hp3 bmo
  refine ⟨⟨_, rfl⟩, trivial, ?_⟩
  (try refine De.MidT.tail ?_)
  refine De.Tr.done (by kernel_rfl) ?_
  (try simp only [Act.put, De.l0, De.l1, De.l2])
  go_wp2_with (fail)
  refine De.region_tree (fun b w' => bif b then (True) else (w'.cell? ⟨g2, 0, none⟩ = some (.pointer (some ⟨gh, 0, none⟩)) ∧ w'.cell? ⟨gh, 3, none⟩ = some (.map (some mu)) ∧ w'.cell? ⟨g1, 0, none⟩ = some (.string o))) 6 1 (by kernel_rfl) (by kernel_rfl) (by decide) KM3.out ?_
  (try simp only [Act.put, De.l0, De.l1, De.l2])
  refine De.MidT.read (o := ?o8) (v := ?v8) 0 (by decide) ?q8 (by kernel_rfl) (by kernel_rfl) ?w8 (by kernel_rfl) ?y8 ?h8
  case q8 => (simp only [De.g0, De.g1, De.g2]; rfl)
  case w8 => kernel_rfl
  case y8 => (intro w' hw'; obtain ⟨x1, x2, x3⟩ := hw'; go_simp; (try with_reducible rfl))
  (try simp only [Act.put, De.l0, De.l1, De.l2])
  refine De.MidT.read (o := ?o9) (v := ?v9) 1 (by decide) ?q9 (by kernel_rfl) (by kernel_rfl) ?w9 (by kernel_rfl) ?y9 ?h9
  case q9 => (simp only [De.g0, De.g1, De.g2]; rfl)
  case w9 => kernel_rfl
  case y9 => (intro w' hw'; obtain ⟨x1, x2, x3⟩ := hw'; go_simp; (try with_reducible rfl))
  (try simp only [Act.put, De.l0, De.l1, De.l2])
  refine De.MidT.read (o := ?o10) (v := ?v10) 2 (by decide) ?q10 (by kernel_rfl) (by kernel_rfl) ?w10 (by kernel_rfl) ?y10 ?h10
  case q10 => (simp only [De.g0, De.g1, De.g2]; rfl)
  case w10 => kernel_rfl
  case y10 => (intro w' hw'; obtain ⟨x1, x2, x3⟩ := hw'; go_simp; (try with_reducible rfl))
  (try simp only [Act.put, De.l0, De.l1, De.l2])
  refine De.MidT.read (o := ?o11) (v := ?v11) 3 (by decide) ?q11 (by kernel_rfl) (by kernel_rfl) ?w11 (by kernel_rfl) ?y11 ?h11
  case q11 => (simp only [De.g0, De.g1, De.g2]; rfl)
  case w11 => kernel_rfl
  case y11 => (intro w' hw'; obtain ⟨x1, x2, x3⟩ := hw'; go_simp; (try with_reducible rfl))
  (try simp only [Act.put, De.l0, De.l1, De.l2])
  refine De.MidT.read (o := ?o12) (v := ?v12) 4 (by decide) ?q12 (by kernel_rfl) (by kernel_rfl) ?w12 (by kernel_rfl) ?y12 ?h12
  case q12 => (simp only [De.g0, De.g1, De.g2]; rfl)
  case w12 => kernel_rfl
  case y12 => (intro w' hw'; obtain ⟨x1, x2, x3⟩ := hw'; go_simp; (try with_reducible rfl))
  (try simp only [Act.put, De.l0, De.l1, De.l2])
  refine De.MidT.read (o := ?o13) (v := ?v13) 5 (by decide) ?q13 (by kernel_rfl) (by kernel_rfl) ?w13 (by kernel_rfl) ?y13 ?h13
  case q13 => (simp only [De.g0, De.g1, De.g2]; rfl)
  case w13 => kernel_rfl
  case y13 => (intro w' hw'; obtain ⟨x1, x2, x3⟩ := hw'; go_simp; (try with_reducible rfl))
  (try simp only [Act.put, De.l0, De.l1, De.l2])
  (try refine De.MidT.tail ?_)
  refine De.Tr.one (i := 6) (o := ?o14) (by kernel_rfl) ?q14 ?g14 ?h14
  case q14 => (simp only [De.g0, De.g1, De.g2]; rfl)
  case g14 => rfl
  refine wp_mapdel 109 9 4 9 _ _ rfl Tryz.underlying109 Tryz.underlying9 mu _ o rfl rfl HMU3.out ?_
  intro w4 hM4 hgr4
  replace hgr4 : w3.drew.grownBy w4 (some mu) := hgr4
  have st4 : ∀ j, j ≠ mu → j < w3.heap.size → w4.heap[j]? = w3.heap[j]? := fun j h1 h2 => hgr4.block j h2 (fun e => h1 (Option.some.inj e))
  have bmu : blkOf (V2 .used) = some mu := by rw [HVU.out]; rfl
  have bmu3 : blkOf ((V2.put (.pack o) (.slice none 0 0)) .used) = some mu := bmu
  have H4 : Hid (HouseAt w4 (V2.put (.pack o) (.slice none 0 0)) { S.set d c with out := out', used := used' }) := HH3.out.setUsed (used' := used') (fun r j hr r1 => st4 j (HH3.out.ne_ hr bmu3 r1) (HH3.out.lt ⟨r, hr⟩))
    (fun g' hg' => by
      rw [show (V2.put (.pack o) (.slice none 0 0)) .used = V2 .used from rfl, HVU.out] at hg'
      obtain rfl : mu = g' := by injection hg' with h; injection h
      refine hM4.congr fun x => ?_
      rw [hu x]
      by_cases hx : x = o
      · rw [if_pos hx, if_pos hx]
        rfl
      · rw [if_neg hx, if_neg hx]
        rfl)
  have HX4 : Hid ((w4.os = w.os ∧ w4.tape = w.tape ∧ w4.output = w.output ∧ w.heap.size ≤ w4.heap.size) ∧ ∀ j, j < w.heap.size → ¬ Foot V j → w4.heap[j]? = w.heap[j]?) := by
    obtain ⟨a1, a2, a3, a4⟩ := HX3.out
    have hz := HGR2.out.size
    refine ⟨⟨hgr4.os.trans (a1.trans HGR2.out.os), hgr4.tape.trans (a2.trans HGR2.out.tape), hgr4.output.trans (a3.trans HGR2.out.output), Nat.le_trans hz (Nat.le_trans a4 hgr4.size)⟩, fun j hj hn => ?_⟩
    refine (st4 j (fun e => hn ⟨.used, by rw [← HE3.out, e]; exact bmu⟩) (by omega)).trans ((HS3.out j (fun e => hn ⟨.out, by rw [← HE2.out, e]; exact HBMO.out⟩) (by omega)).trans (HGR2.out.block j hj (fun e => hn ⟨.chest d, by rw [HBG.out]; exact e.symm⟩)))
  clear hgr4 st4 hM4 bmu bmu3
  refine ⟨⟨_, rfl⟩, trivial, ?_⟩
  (try refine De.MidT.tail ?_)
  refine De.Tr.done (by kernel_rfl) ?_
  (try simp only [Act.put, De.l0, De.l1, De.l2])
  go_wp2_with (fail)
  go_end0
  exact ⟨rfl, H4.out, HX4.out⟩
end
end Dr
end Go.Proofs.YtbgakdpbglpfaaaGreatDoor
-- the text DrOa
namespace Go.Proofs.YtbgakdpbglpfaaaGreatDoor
open Go.RowKit
namespace Dr
set_option linter.unusedSimpArgs false
section
variable {w wh wm : World} {V V1 : Vals} {S S1 : House}
theorem order_out {o : ByteArray} {p : Parcel} {pv u1 : Value} {mo : Nat} (H1 : HouseAt wh V1 S1) (hno : lk o S1.out = none) (hVo : V1 .out = .map (some mo))
    (hS : ∀ j, j ≠ mo → j < wh.heap.size → wm.heap[j]? = wh.heap[j]?)
    (hM : MapS wm mo (fun q => if q = o then some (.agg #[.string p.drawer, pv]) else if q = o then some u1 else (lk q S1.out).map fun p => .agg #[.string p.drawer, V1 (.pack q)]))
    (hP : OwnN wm pv p.packets) (hPf : ∀ k, blkOf pv = some k → ¬ Foot V1 k) :
    HouseAt wm (V1.put (.pack o) pv) { S1 with out := S1.out ++ [(o, p)] } := by
  have bo : blkOf (V1 .out) = some mo := by rw [hVo]; rfl
  have e : lk o (S1.out ++ [(o, p)]) = some p := by rw [lk_append hno, if_pos rfl]
  refine H1.setOut (fun r j hr r1 _ => hS j (H1.ne_ hr bo r1) (H1.lt ⟨r, hr⟩)) (fun g hg => ?_) (fun x hx => by rw [lk_append hno, if_neg hx]) (fun q hq => ?_) (fun h => by rw [e] at h; cases h) (fun k hk => Or.inr (hPf k hk))
  · rw [hVo] at hg
    obtain rfl : mo = g := by injection hg with h; injection h
    refine hM.congr fun q => ?_
    by_cases hq : q = o
    · rw [if_pos hq, if_pos hq, e]
      rfl
    · rw [if_neg hq, if_neg hq, if_neg hq]
  · rw [e] at hq
    obtain rfl : p = q := by injection hq
    exact hP
theorem order_used {o : ByteArray} {u2 : Value} {mu : Nat} (H1 : HouseAt wh V1 S1) (hVu : V1 .used = .map (some mu))
    (hS : ∀ j, j ≠ mu → j < wh.heap.size → wm.heap[j]? = wh.heap[j]?)
    (hM : MapS wm mu (fun q => if q = o then some (.bool true) else if q = o then some u2 else if hasB q S1.used then some (.bool true) else none)) :
    HouseAt wm V1 { S1 with used := S1.used ++ [o] } := by
  have bo : blkOf (V1 .used) = some mu := by rw [hVu]; rfl
  refine H1.setUsed (fun r j hr r1 => hS j (H1.ne_ hr bo r1) (H1.lt ⟨r, hr⟩)) (fun g hg => ?_)
  rw [hVu] at hg
  obtain rfl : mu = g := by injection hg with h; injection h
  refine hM.congr fun q => ?_
  rw [hasB_append]
  by_cases hq : q = o
  · rw [if_pos hq]
    simp [hq]
  · rw [if_neg hq, if_neg hq]
    simp [hq]
end
end Dr
end Go.Proofs.YtbgakdpbglpfaaaGreatDoor
