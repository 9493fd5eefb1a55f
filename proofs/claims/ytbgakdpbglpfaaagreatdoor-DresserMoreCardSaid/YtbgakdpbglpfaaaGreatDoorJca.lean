/- The texts DrCa to DrCd, joined by joinlist.py: their statements say what each proves. -/
import Derived.Test.YtbgakdpbglpfaaaGreatDoorDrU
import Derived.Shelf.SlicesE.DeleteFunc
import Derived.Lib.SliceRun
import Derived.Lib.SlicesS
import Derived.Laws.Tables
import Derived.Laws.EntriesVeiled
-- the text DrCa
namespace Go.Proofs.YtbgakdpbglpfaaaGreatDoor
open Go.RowKit
namespace Dr
set_option linter.unusedSimpArgs false
theorem zero_parcelC (w : World) : (zeroValue 105).run Tryz.prog w = .ok (.agg #[.string ⟨#[]⟩, .slice none 0 0]) w := Tryz.zeroValue105 w
theorem zero_strC (w : World) : (zeroValue 9).run Tryz.prog w = .ok (.string ⟨#[]⟩) w := Tryz.zeroValue9 w
theorem info_parcelC : (Tryz.prog.info? 105).map (·.size) = some 2 := by kernel_rfl
theorem wp_alloc_agg {P : Program} {w : World} {o : Oper} {a : Act} {K : Act → World → Prop} {Q : Exit → Act → World → Prop} (ty : TypeId) (z : Array Value) (ho : o.op = .alloc ty) (hz : ∀ w : World, (zeroValue ty).run P w = .ok (.agg z) w)
    (h : ∀ (w' : World) (g : Nat), Blk w' g ty z → w.grownBy w' none → w.heap.size ≤ g → K (a.put o.dst (.pointer (some ⟨g, 0, none⟩))) w') : o.wp P a w K Q := by
  have hh := h (w.alloc (.cells z ty)) w.heap.size (Blk.new _ _ _) (World.grownBy_alloc w _ none) (Nat.le_refl _)
  unfold Oper.wp execOp
  simp only [ho]
  simpa [go_sem, hz] using hh
theorem wp_store_blk {P : Program} {w : World} {o : Oper} {a : Act} {K : Act → World → Prop} {Q : Exit → Act → World → Prop} (ty : TypeId) (x y : Operand) (ho : o.op = .store ty x y)
    (g : Nat) (cells : Array Value) (hx : a.eval x = .pointer (some ⟨g, 0, none⟩)) (hy : a.eval y = .agg cells)
    (t : TypeId) (old : Array Value) (hg : Blk w g t old) (hi : (P.info? ty).map (·.size) = some cells.size)
    (hold : old.size = cells.size) (h1 : cells.all (·.oneCell') = true)
    (h : ∀ w' : World, Blk w' g t cells → w.grownBy w' (some g) → K (a.put o.dst undef) w') : o.wp P a w K Q :=
  wp_store_row ty x y ho g cells hx hy t old hg hi hold h1 (h _ (Blk.row hg cells) (grownBy_setRow w g cells))
/-- a name is that of the order -/
theorem back_is {o x : ByteArray} {g1 : Nat} {W : World} (hc : W.cell? ⟨g1, 0, none⟩ = some (.string o)) :
    FnGives Tryz.prog 240 #[.pointer (some ⟨g1, 0, none⟩)] #[.string x] (.bool (decide (x = o))) W := by
  show Calls Tryz.prog 240 #[.string x, .pointer (some ⟨g1, 0, none⟩)] W _
  have hb : (x.toList == o.toList) = decide (x = o) := by
    rw [Bool.eq_iff_iff, Go.Lib.bytes_beq_iff]
    simp
  go_enter Tryz.func240, Tryz.ntmps240
  go_wp2
  all_goals (go_ret; exact ⟨by simp_all, 0, rfl⟩)
theorem back_drop {w : World} {v : Value} {xs : List ByteArray} {o : ByteArray} {g1 : Nat} (h : OwnT w v xs) (hn : 0 < xs.length) (hl : xs.length ≤ 1000) (hG : Blk w g1 214 #[.string o]) (hv : blkOf v ≠ some g1) :
    Calls Tryz.prog 239 #[v, .func (.func 240) #[] #[.pointer (some ⟨g1, 0, none⟩)]] w fun e w' =>
      ∃ g n c, e = .returned (.slice (some ⟨g, 0, none⟩) n c) ∧ blkOf v = some g ∧ OwnT w' (.slice (some ⟨g, 0, none⟩) n c) (xs.filter fun x => decide (x ≠ o)) ∧ (∀ j, j ≠ g → w'.heap[j]? = w.heap[j]?) ∧ w'.os = w.os ∧ w'.tape = w.tape ∧ w'.output = w.output ∧ w'.heap.size = w.heap.size := by
  have h0 := h
  obtain ⟨A, c, rfl, hc, hm, hr, hA⟩ := ownS_form h
  obtain ⟨g, rfl⟩ := hA hn
  have hg1 : g1 ≠ g := fun e => hv (by rw [e]; rfl)
  have hcell : w.cell? ⟨g1, 0, none⟩ = some (.string o) := hG.at_ 0 rfl
  have hB := hG.lt
  have eg : ∀ args w, (callFunc 240 args).run Tryz.prog w = .ok (.enter 240 args) w := enters_of Tryz.func240 (by kernel_rfl) rfl
  have hp : PredAt Tryz.prog 240 #[.pointer (some ⟨g1, 0, none⟩)] Value.string (fun x => decide (x = o)) w := fun W x hb => back_is ((hb.cell (p := ⟨g1, 0, none⟩) hB).trans hcell)
  have hpo : PredOver Tryz.prog 240 #[.pointer (some ⟨g1, 0, none⟩)] Value.string (fun x => decide (x = o)) g 0 xs.toArray.size w := fun n os dk x _ => back_is (by
    unfold sortWorld
    rw [Go.Sort.cell?_grow _ _ _ (by show g1 < (Go.Sort.putRow _ _ _ _ _).heap.size; rw [Go.Sort.size_putRow]; exact hB), Go.Sort.cell?_putRow_other _ _ g 0 _ _ (Or.inl hg1)]
    exact hcell)
  have hH : Go.Sort.Holds Value.string w g 0 xs.toArray := fun j hj => by
    have hj' : j < xs.length := by simpa using hj
    refine ⟨?_, by rw [Nat.zero_add]; exact World.ownsRow.frozenAt h0 j⟩
    rw [Nat.zero_add, World.ownsRow.cellAt h0 j (by omega), strsV_get _ _ hj', getElem!_pos xs.toArray j hj]
    simp
  have hcon := Tryz.slices_DeleteFunc Value.string (fun _ => rfl) (fun x => decide (x = o)) 240 #[.pointer (some ⟨g1, 0, none⟩)] eg ⟨#[]⟩ zero_strC g 0 c xs.toArray w hp hpo hH (by simp; omega) (by simpa using hc)
  simp only [List.size_toArray] at hcon
  have hf : (xs.filter fun x => !decide (x = o)) = xs.filter fun x => decide (x ≠ o) := by
    congr 1
    funext x
    simp
  rw [hf] at hcon
  refine hcon.mono ?_
  rintro e w' ⟨rfl, q, rfl⟩
  have hle : (xs.filter fun x => decide (x ≠ o)).length ≤ xs.length := List.length_filter_le _ _
  refine ⟨g, _, c, rfl, rfl, ?_, ?_, rfl, rfl, rfl, by rw [Go.Sort.size_putRow]; rfl⟩
  · generalize hF : (xs.filter fun x => decide (x ≠ o)) = F at hle ⊢
    obtain ⟨h1, h2⟩ := h0
    rcases h2 with ⟨h2, _⟩ | ⟨g', c', cur, h2, _, hg, hc', hm', hsz, _⟩
    · cases h2
    · injection h2 with h2 h3 h4
      injection h2 with h2
      injection h2 with h2
      subst h2 h4
      have hs2 : (F ++ List.replicate (xs.length - F.length) (⟨#[]⟩ : ByteArray)).length = xs.length := by simp; omega
      refine ⟨by simp [strsV], Or.inr ⟨g, c, Go.Sort.putCells Value.string 0 (F ++ List.replicate (xs.length - F.length) (⟨#[]⟩ : ByteArray)).toArray cur, rfl, Nat.zero_le _, ?_, by omega, hm', ?_, ?_⟩⟩
      · unfold Go.Sort.putRow Go.Sort.mapBlock
        simp only [Array.getElem?_modify, if_true]
        show (w.heap[g]?).map _ = _
        rw [hg]
        rfl
      · unfold Go.Sort.putCells
        simpa using hsz
      · apply List.ext_getElem?
        intro k
        rw [Nat.mul_one, List.getElem?_take]
        by_cases hk : k < F.length
        · rw [if_pos hk, Array.getElem?_toList]
          unfold Go.Sort.putCells
          have hkc : k < cur.size := by rw [hsz]; omega
          rw [Array.getElem?_mapIdx, Array.getElem?_eq_getElem hkc, Option.map_some, if_pos (by simp; omega), strsV_get _ _ hk]
          congr 2
          rw [Nat.sub_zero, getElem!_pos _ k (by simp; omega)]
          simp [List.getElem_append_left hk]
        · rw [if_neg hk]
          symm
          exact List.getElem?_eq_none (by rw [strsV_length]; omega)
  · intro j hj
    unfold Go.Sort.putRow Go.Sort.mapBlock
    simp only [Array.getElem?_modify]
    rw [if_neg (Ne.symm hj)]
    rfl
section
variable {w : World} {V : Vals} {S : House}
/-- the look-up of an order that is out -/
theorem HouseAt.lookO (H : HouseAt w V S) {w' : World} (h : ∀ g, Foot V g → w'.heap[g]? = w.heap[g]?) {g : Nat} (hg : V .out = .map (some g)) (o : ByteArray) :
    (Instr.lookup 108 (.map (some g)) (.string o) true).run Tryz.prog w' = .ok (match lk o S.out with
      | some p => .tuple #[.agg #[.string p.drawer, V (.pack o)], .bool true]
      | none => .tuple #[.agg #[.string ⟨#[]⟩, .slice none 0 0], .bool false]) w' := by
  obtain ⟨g', h1, h2⟩ := H.mo
  obtain rfl : g' = g := by rw [hg] at h1; injection h1 with h1; injection h1 with h1; exact h1.symm
  have h3 := (h2.same (w' := w') (h g' ⟨.out, by rw [hg]; rfl⟩)).look Tryz.underlying108 Tryz.underlying9 (zero_parcelC w') o true
  rw [h3]
  cases hl : lk o S.out <;> simp
set_option maxRecDepth 100000 in
theorem returning_none (H : HouseAt w V S) (o : ByteArray) (hno : lk o S.out = none) :
    Calls Tryz.prog 238 #[.agg #[.string o], V .house] w (DoPost V S w (doP S (.back o))) := by
  obtain ⟨gh, hV, hBh⟩ := H.hs
  obtain ⟨mo, hVo, _⟩ := H.mo
  have HLK : Hid (∀ (w' : World), Below w.heap.size w w' → (Instr.lookup 108 (.map (some mo)) (.string o) true).run Tryz.prog w' = .ok (.tuple #[.agg #[.string ⟨#[]⟩, .slice none 0 0], .bool false]) w') := fun w' hb => by
    have h := H.lookO (fun g hg => hb.block g (H.lt hg)) hVo o
    rw [hno] at h
    exact h
  have HGH : Hid (Blk w gh 111 #[V .names, V .chests, .map (some mo), V .used]) := by rw [← hVo]; exact hBh
  have HP : Hid (∀ e w', e = .returned (.tuple #[.nilFunc, .int .i64 2]) → Below w.heap.size w w' → DoPost V S w (doP S (.back o)) e w') := fun e w' he hb => by
    rw [show doP S (.back o) = (2, S) by rw [doP, hno]]
    exact .no H (by simp) he hb
  rw [hV]
  generalize hPo : DoPost V S w (doP S (.back o)) = Po at HP ⊢
  clear hPo hV hBh H hno hVo
  go_enter Tryz.func238, Tryz.ntmps238
  go_wp2_with (first
    | (with_reducible show wpList _ _ _ (⟨_, .box 214 _, _, _, _, _⟩ :: _) _ _
       refine wpList_box_cells rfl 214 _ rfl (.agg #[.string o]) #[.string o] rfl rfl ?_
       intro w1 g1 hG1 hgr1 hge1
       have hb1 := below_grown hgr1)
    | (with_reducible show wpList _ _ _ (⟨_, .box 37 _, _, _, _, _⟩ :: _) _ _
       refine wpList_box_cells rfl 37 _ rfl (.pointer (some ⟨gh, 0, none⟩)) #[.pointer (some ⟨gh, 0, none⟩)] rfl rfl ?_
       intro w2 g2 hG2 hgr2 hge2
       have hb12 := below_grown hgr2
       have hb2 := hb1.trans (hb12.mono hb1.size)))
  have HB2 := Lib.hid hb2
  have HG1 : Hid (Blk w2 g1 214 #[.string o]) := Blk.callee hG1 hb12
  have HG2 := Lib.hid hG2
  have KF : Hid (∀ w', Below w2.heap.size w2 w' → w'.cell? ⟨g2, 0, none⟩ = some (.pointer (some ⟨gh, 0, none⟩)) ∧ w'.cell? ⟨gh, 2, none⟩ = some (.map (some mo)) ∧ w'.cell? ⟨g1, 0, none⟩ = some (.string o) ∧
      (Instr.lookup 108 (.map (some mo)) (.string o) true).run Tryz.prog w' = .ok (.tuple #[.agg #[.string ⟨#[]⟩, .slice none 0 0], .bool false]) w') := fun w' hb =>
    ⟨(HG2.out.callee hb).at_ 0 rfl, ((HGH.out.callee HB2.out).callee hb).at_ 2 rfl, (HG1.out.callee hb).at_ 0 rfl, HLK.out w' (HB2.out.trans (hb.mono HB2.out.size))⟩
  clear hb1 hgr1 hb12 hgr2 hb2 hG1 hG2 hge1 hge2
  refine De.region_tree (fun b w' => bif b then (True) else (w'.cell? ⟨g2, 0, none⟩ = some (.pointer (some ⟨gh, 0, none⟩)) ∧ w'.cell? ⟨gh, 2, none⟩ = some (.map (some mo)) ∧ w'.cell? ⟨g1, 0, none⟩ = some (.string o) ∧ (Instr.lookup 108 (.map (some mo)) (.string o) true).run Tryz.prog w' = .ok (.tuple #[.agg #[.string ⟨#[]⟩, .slice none 0 0], .bool false]) w')) 11 2 (by kernel_rfl) (by kernel_rfl) (by decide) (KF.out _ (Below.refl _ _).drew) ?_
  (try simp only [Act.put, De.l0, De.l1, De.l2])
  refine De.MidT.read (o := ?o1) (v := ?v1) 0 (by decide) ?q1 (by kernel_rfl) (by kernel_rfl) ?w1 (by kernel_rfl) ?y1 ?h1
  case q1 => (simp only [De.g0, De.g1, De.g2]; rfl)
  case w1 => kernel_rfl
  case y1 => (intro w' hw'; obtain ⟨x1, x2, x3, x4⟩ := hw'; go_simp; (try with_reducible rfl))
  (try simp only [Act.put, De.l0, De.l1, De.l2])
  refine De.MidT.read (o := ?o2) (v := ?v2) 1 (by decide) ?q2 (by kernel_rfl) (by kernel_rfl) ?w2 (by kernel_rfl) ?y2 ?h2
  case q2 => (simp only [De.g0, De.g1, De.g2]; rfl)
  case w2 => kernel_rfl
  case y2 => (intro w' hw'; obtain ⟨x1, x2, x3, x4⟩ := hw'; go_simp; (try with_reducible rfl))
  (try simp only [Act.put, De.l0, De.l1, De.l2])
  refine De.MidT.read (o := ?o3) (v := ?v3) 2 (by decide) ?q3 (by kernel_rfl) (by kernel_rfl) ?w3 (by kernel_rfl) ?y3 ?h3
  case q3 => (simp only [De.g0, De.g1, De.g2]; rfl)
  case w3 => kernel_rfl
  case y3 => (intro w' hw'; obtain ⟨x1, x2, x3, x4⟩ := hw'; go_simp; (try with_reducible rfl))
  (try simp only [Act.put, De.l0, De.l1, De.l2])
  refine De.MidT.read (o := ?o4) (v := ?v4) 3 (by decide) ?q4 (by kernel_rfl) (by kernel_rfl) ?w4 (by kernel_rfl) ?y4 ?h4
  case q4 => (simp only [De.g0, De.g1, De.g2]; rfl)
  case w4 => kernel_rfl
  case y4 => (intro w' hw'; obtain ⟨x1, x2, x3, x4⟩ := hw'; go_simp; (try with_reducible rfl))
  (try simp only [Act.put, De.l0, De.l1, De.l2])
  refine De.MidT.read (o := ?o5) (v := ?v5) 4 (by decide) ?q5 (by kernel_rfl) (by kernel_rfl) ?w5 (by kernel_rfl) ?y5 ?h5
  case q5 => (simp only [De.g0, De.g1, De.g2]; rfl)
  case w5 => kernel_rfl
  case y5 => (intro w' hw'; obtain ⟨x1, x2, x3, x4⟩ := hw'; go_simp; (try with_reducible rfl))
  (try simp only [Act.put, De.l0, De.l1, De.l2])
  refine De.MidT.read (o := ?o6) (v := ?v6) 5 (by decide) ?q6 (by kernel_rfl) (by kernel_rfl) ?w6 (by kernel_rfl) ?y6 ?h6
  case q6 => (simp only [De.g0, De.g1, De.g2]; rfl)
  case w6 => kernel_rfl
  case y6 => (intro w' hw'; obtain ⟨x1, x2, x3, x4⟩ := hw'; go_simp; (try with_reducible rfl))
  (try simp only [Act.put, De.l0, De.l1, De.l2])
  refine De.MidT.read (o := ?o7) (v := ?v7) 6 (by decide) ?q7 (by kernel_rfl) (by kernel_rfl) ?w7 (by kernel_rfl) ?y7 ?h7
  case q7 => (simp only [De.g0, De.g1, De.g2]; rfl)
  case w7 => kernel_rfl
  case y7 => (intro w' hw'; obtain ⟨x1, x2, x3, x4⟩ := hw'; go_simp; (try with_reducible rfl))
  (try simp only [Act.put, De.l0, De.l1, De.l2])
  refine De.MidT.read (o := ?o8) (v := ?v8) 7 (by decide) ?q8 (by kernel_rfl) (by kernel_rfl) ?w8 (by kernel_rfl) ?y8 ?h8
  case q8 => (simp only [De.g0, De.g1, De.g2]; rfl)
  case w8 => kernel_rfl
  case y8 => (intro w' hw'; obtain ⟨x1, x2, x3, x4⟩ := hw'; go_simp; (try with_reducible rfl))
  (try simp only [Act.put, De.l0, De.l1, De.l2])
  refine De.MidT.read (o := ?o9) (v := ?v9) 8 (by decide) ?q9 (by kernel_rfl) (by kernel_rfl) ?w9 (by kernel_rfl) ?y9 ?h9
  case q9 => (simp only [De.g0, De.g1, De.g2]; rfl)
  case w9 => kernel_rfl
  case y9 => (intro w' hw'; obtain ⟨x1, x2, x3, x4⟩ := hw'; go_simp; (try with_reducible rfl))
  (try simp only [Act.put, De.l0, De.l1, De.l2])
  refine De.MidT.read2 (o := ?o10) (v := ?v10) 9 (by decide) ?q10 (by kernel_rfl) (by kernel_rfl) ?w10 ?y10 ?h10
  case q10 => (simp only [De.g0, De.g1, De.g2]; rfl)
  case w10 => kernel_rfl
  case y10 => (intro b w' hw'; clear hw'; go_simp; (try with_reducible rfl))
  (try simp only [Act.put, De.l0, De.l1, De.l2])
  (try refine De.MidT.tail ?_)
  refine De.Tr.one (i := 10) (o := ?o11) (by kernel_rfl) ?q11 ?g11 ?h11
  case q11 => (simp only [De.g0, De.g1, De.g2]; rfl)
  case g11 => rfl
  refine wp_alloc_agg 105 _ rfl zero_parcelC ?_
  intro w3 gp hG3 hgr3 hge3
  have hb3 : Below w2.heap.size w2 w3 := (Below.refl _ _).drew.trans (below_grown (w := w2.drew) hgr3)
  have HB3 := Lib.hid hb3
  refine ⟨⟨_, rfl⟩, KF.out _ hb3, ?_⟩
  (try simp only [Act.put, De.l0, De.l1, De.l2])
  (try refine De.MidT.tail ?_)
  refine De.Tr.one (i := 11) (o := ?o12) (by kernel_rfl) ?q12 ?g12 ?h12
  case q12 => (simp only [De.g0, De.g1, De.g2]; rfl)
  case g12 => rfl
  refine wp_store_blk 105 _ _ rfl gp #[.string ⟨#[]⟩, .slice none 0 0] rfl rfl 105 _ hG3 info_parcelC rfl (by simp [Value.oneCell']) ?_
  intro w4 hG4 hgr4
  have HB4 : Hid (Below w.heap.size w w4) := below_some (HB2.out.trans (HB3.out.mono HB2.out.size)) hgr4 (Nat.le_trans HB2.out.size HB3.out.size) (Nat.le_trans HB2.out.size hge3)
  refine ⟨⟨_, rfl⟩, trivial, ?_⟩
  clear hgr3 hge3 hb3 hgr4 hG3 hG4
  (try simp only [Act.put, De.l0, De.l1, De.l2])
  refine De.MidT.read2 (o := ?o13) (v := ?v13) 12 (by decide) ?q13 (by kernel_rfl) (by kernel_rfl) ?w13 ?y13 ?h13
  case q13 => (simp only [De.g0, De.g1, De.g2]; rfl)
  case w13 => kernel_rfl
  case y13 => (intro b w' hw'; clear hw'; go_simp; (try with_reducible rfl))
  (try simp only [Act.put, De.l0, De.l1, De.l2])
  (try refine De.MidT.tail ?_)
  refine De.Tr.done (by kernel_rfl) ?_
  (try simp only [Act.put, De.l0, De.l1, De.l2])
  go_wp2_with (fail)
  exact HP.out _ _ rfl HB4.out
end
end Dr
end Go.Proofs.YtbgakdpbglpfaaaGreatDoor
-- the text DrCb
namespace Go.Proofs.YtbgakdpbglpfaaaGreatDoor
open Go.RowKit
namespace Dr
set_option linter.unusedSimpArgs false
def undoFC (g4 g3 : Nat) : Value := .func (.func 219) #[] #[.pointer (some ⟨g4, 0, none⟩), .pointer (some ⟨g3, 0, none⟩)]
theorem execOp_load_parcel (ρ : Operand → Value) (dst : Option Tmp) (x : Operand) (ty : TypeId) (pos : String) (after : Array Edge) (guard : Option (Nat × Bool)) :
    execOp ρ { dst, op := .load 105 x, type := ty, pos, after, guard } = (do pure (.value (← loadAgg 105 (ρ x)))) := rfl
theorem run_load_parcel (w : World) (g : Nat) : (loadAgg 105 (.pointer (some ⟨g, 0, none⟩))).run Tryz.prog w = match aggAt 105 2 w g with | some cs => .ok (.agg cs) w | none => aggStuck Tryz.prog 105 w g :=
  run_loadAgg Tryz.underlying105 rfl info_parcelC w g
attribute [local go_sem ↓] execOp_load_parcel
attribute [local go_sem] run_load_parcel
section
variable {w : World} {V : Vals} {S : House}
set_option maxRecDepth 100000 in
theorem return_back {o d : ByteArray} {c c0 : Chest} {p : Parcel} {g g1 g2 g3 g4 g6 gp gh : Nat} {ws wk wo vp : Value} {out' : List (ByteArray × Parcel)} (H : HouseAt w V S) (hk : lk d S.chests = some c0) (hg : V (.chest d) = .pointer (some ⟨g, 0, none⟩))
    (b1 : Blk w g3 98 #[.pointer (some ⟨g, 0, none⟩)]) (b2 : Blk w g4 103 (chestV ws wk wo c)) (o1 : OwnN w ws c.sizes) (o2 : OwnN w wk c.stock) (o3 : OwnT w wo c.out)
    (f1 : ∀ i, blkOf ws = some i → ¬ Foot V i) (f2 : ∀ i, blkOf wk = some i → ¬ Foot V i) (f3 : ∀ i, blkOf wo = some i → ¬ Foot V i) (d1 : Apart ws wk) (d2 : Apart ws wo) (d3 : Apart wk wo)
    (u6 : Blk w g6 1 #[undoFC g4 g3]) (u2 : Blk w g2 37 #[.pointer (some ⟨gh, 0, none⟩)]) (u1 : Blk w g1 214 #[.string o]) (up : Blk w gp 105 #[.string p.drawer, vp]) (hgh : V .house = .pointer (some ⟨gh, 0, none⟩))
    (n1 : ¬ Foot V g1) (n2 : ¬ Foot V g2) (np : ¬ Foot V gp) (hp : OwnN w vp p.packets) (fp : ∀ i, blkOf vp = some i → ¬ Foot V i) (p1 : Apart vp ws) (p2 : Apart vp wk) (p3 : Apart vp wo) (hl : ∀ x, x ≠ o → lk x out' = lk x S.out) (ho : lk o out' = some p) :
    Calls Tryz.prog 241 #[.pointer (some ⟨g6, 0, none⟩), .pointer (some ⟨gp, 0, none⟩), .pointer (some ⟨g2, 0, none⟩), .pointer (some ⟨g1, 0, none⟩)] w fun e w' => e = .returned (.tuple #[]) ∧ HouseAt w' ((updC V d ws wk wo).put (.pack o) vp) { S.set d c with out := out' } ∧
      (w'.os = w.os ∧ w'.tape = w.tape ∧ w'.output = w.output ∧ w.heap.size ≤ w'.heap.size) ∧ ∀ j, j < w.heap.size → ¬ Foot V j → w'.heap[j]? = w.heap[j]? := by
  have HUN := Lib.hid (undo_chest H hk hg b1 b2 o1 o2 o3 f1 f2 f3 d1 d2 d3)
  have HF2 : Hid (∀ i, blkOf vp = some i → ¬ Foot (updC V d ws wk wo) i) := fun i hi hf => by
    rcases foot_updC hf with h | h | h | h
    · exact p1 i hi h
    · exact p2 i hi h
    · exact p3 i hi h
    · exact fp i hi h
  obtain ⟨V2, hV2⟩ : ∃ V2, updC V d ws wk wo = V2 := ⟨_, rfl⟩
  rw [hV2] at HUN HF2 ⊢
  have HE1 : Hid (V2 .house = V .house) := by rw [← hV2]; rfl
  have HE2 : Hid (V2 .out = V .out) := by rw [← hV2]; rfl
  clear hV2
  have c6 : w.cell? ⟨g6, 0, none⟩ = some (.func (.func 219) #[] #[.pointer (some ⟨g4, 0, none⟩), .pointer (some ⟨g3, 0, none⟩)]) := u6.at_ 0 rfl
  have HH := Lib.hid H
  have HG := Lib.hid hg
  have U2 := Lib.hid u2
  have U1 := Lib.hid u1
  have UP := Lib.hid up
  have HPK := Lib.hid hp
  have HFP := Lib.hid fp
  have HGH := Lib.hid hgh
  have HNN : Hid (¬ Foot V g1 ∧ ¬ Foot V g2 ∧ ¬ Foot V gp) := ⟨n1, n2, np⟩
  clear H hk hg b1 b2 o1 o2 o3 f1 f2 f3 d1 d2 d3 u6 u2 u1 up hgh n1 n2 np hp fp p1 p2 p3
  go_enter Tryz.func241, Tryz.ntmps241
  go_wp2_with (first
    | (go_at_call 219; (with_reducible refine HUN.out.mono ?_); rintro e w2 ⟨rfl, hH2, hgr2⟩))
  obtain ⟨mo, hVo, hMo⟩ := hH2.mo
  obtain ⟨gh', hVh, hBh⟩ := hH2.hs
  rw [HE1.out, HGH.out] at hVh
  obtain rfl : gh = gh' := by injection hVh with h; injection h with h; injection h
  rw [hVo] at hBh
  have bg : blkOf (V (.chest d)) = some g := by rw [HG.out]; rfl
  have hne : ∀ i, ¬ Foot V i → i ≠ g := fun i hi e => hi ⟨.chest d, by rw [e]; exact bg⟩
  have U12 : Hid (Blk w2 g1 214 #[.string o]) := (hgr2.block g1 U1.out.lt (fun e => hne _ HNN.out.1 (Option.some.inj e))).trans U1.out
  have U22 : Hid (Blk w2 g2 37 #[.pointer (some ⟨gh, 0, none⟩)]) := (hgr2.block g2 U2.out.lt (fun e => hne _ HNN.out.2.1 (Option.some.inj e))).trans U2.out
  have UP2 : Hid (Blk w2 gp 105 #[.string p.drawer, vp]) := (hgr2.block gp UP.out.lt (fun e => hne _ HNN.out.2.2 (Option.some.inj e))).trans UP.out
  have HP2 : Hid (OwnN w2 vp p.packets) := OwnI.same HPK.out fun i hi => hgr2.block i (ownI_lt HPK.out hi) (fun e => hne _ (HFP.out i hi) (Option.some.inj e))
  have HH2 := Lib.hid hH2
  have HGR2 := Lib.hid hgr2
  have HMO := Lib.hid hMo
  have HVO := Lib.hid hVo
  have HBH := Lib.hid hBh
  have HBG := Lib.hid bg
  have KM : Hid (w2.cell? ⟨g2, 0, none⟩ = some (.pointer (some ⟨gh, 0, none⟩)) ∧ w2.cell? ⟨gh, 2, none⟩ = some (.map (some mo)) ∧ w2.cell? ⟨g1, 0, none⟩ = some (.string o) ∧ aggAt 105 2 w2 gp = some #[.string p.drawer, vp]) := ⟨U22.out.at_ 0 rfl, HBH.out.at_ 2 rfl, U12.out.at_ 0 rfl, aggAt_of UP2.out rfl⟩
  clear hH2 hgr2 hMo hVo hBh hVh bg c6 hne
  refine De.region_tree (fun b w' => bif b then (True) else (w'.cell? ⟨g2, 0, none⟩ = some (.pointer (some ⟨gh, 0, none⟩)) ∧ w'.cell? ⟨gh, 2, none⟩ = some (.map (some mo)) ∧ w'.cell? ⟨g1, 0, none⟩ = some (.string o) ∧ aggAt 105 2 w' gp = some #[.string p.drawer, vp])) 7 1 (by kernel_rfl) (by kernel_rfl) (by decide) KM.out ?_
  (try simp only [Act.put, De.l0, De.l1, De.l2])
  refine De.MidT.read (o := ?o1) (v := ?v1) 0 (by decide) ?q1 (by kernel_rfl) (by kernel_rfl) ?w1 (by kernel_rfl) ?y1 ?h1
  case q1 => (simp only [De.g0, De.g1, De.g2]; rfl)
  case w1 => kernel_rfl
  case y1 => (intro w' hw'; obtain ⟨x1, x2, x3, x4⟩ := hw'; go_simp; (try with_reducible rfl))
  (try simp only [Act.put, De.l0, De.l1, De.l2])
  refine De.MidT.read (o := ?o2) (v := ?v2) 1 (by decide) ?q2 (by kernel_rfl) (by kernel_rfl) ?w2 (by kernel_rfl) ?y2 ?h2
  case q2 => (simp only [De.g0, De.g1, De.g2]; rfl)
  case w2 => kernel_rfl
  case y2 => (intro w' hw'; obtain ⟨x1, x2, x3, x4⟩ := hw'; go_simp; (try with_reducible rfl))
  (try simp only [Act.put, De.l0, De.l1, De.l2])
  refine De.MidT.read (o := ?o3) (v := ?v3) 2 (by decide) ?q3 (by kernel_rfl) (by kernel_rfl) ?w3 (by kernel_rfl) ?y3 ?h3
  case q3 => (simp only [De.g0, De.g1, De.g2]; rfl)
  case w3 => kernel_rfl
  case y3 => (intro w' hw'; obtain ⟨x1, x2, x3, x4⟩ := hw'; go_simp; (try with_reducible rfl))
  (try simp only [Act.put, De.l0, De.l1, De.l2])
  refine De.MidT.read (o := ?o4) (v := ?v4) 3 (by decide) ?q4 (by kernel_rfl) (by kernel_rfl) ?w4 (by kernel_rfl) ?y4 ?h4
  case q4 => (simp only [De.g0, De.g1, De.g2]; rfl)
  case w4 => kernel_rfl
  case y4 => (intro w' hw'; obtain ⟨x1, x2, x3, x4⟩ := hw'; go_simp; (try with_reducible rfl))
  (try simp only [Act.put, De.l0, De.l1, De.l2])
  refine De.MidT.read (o := ?o5) (v := ?v5) 4 (by decide) ?q5 (by kernel_rfl) (by kernel_rfl) ?w5 (by kernel_rfl) ?y5 ?h5
  case q5 => (simp only [De.g0, De.g1, De.g2]; rfl)
  case w5 => kernel_rfl
  case y5 => (intro w' hw'; obtain ⟨x1, x2, x3, x4⟩ := hw'; go_simp; (try with_reducible rfl))
  (try simp only [Act.put, De.l0, De.l1, De.l2])
  refine De.MidT.read (o := ?o6) (v := ?v6) 5 (by decide) ?q6 (by kernel_rfl) (by kernel_rfl) ?w6 (by kernel_rfl) ?y6 ?h6
  case q6 => (simp only [De.g0, De.g1, De.g2]; rfl)
  case w6 => kernel_rfl
  case y6 => (intro w' hw'; obtain ⟨x1, x2, x3, x4⟩ := hw'; go_simp; (try with_reducible rfl))
  (try simp only [Act.put, De.l0, De.l1, De.l2])
  refine De.MidT.read (o := ?o7) (v := ?v7) 6 (by decide) ?q7 (by kernel_rfl) (by kernel_rfl) ?w7 (by kernel_rfl) ?y7 ?h7
  case q7 => (simp only [De.g0, De.g1, De.g2]; rfl)
  case w7 => kernel_rfl
  case y7 => (intro w' hw'; obtain ⟨x1, x2, x3, x4⟩ := hw'; go_simp; (try with_reducible rfl))
  (try simp only [Act.put, De.l0, De.l1, De.l2])
  (try refine De.MidT.tail ?_)
  refine De.Tr.one (i := 7) (o := ?o8) (by kernel_rfl) ?q8 ?g8 ?h8
  case q8 => (simp only [De.g0, De.g1, De.g2]; rfl)
  case g8 => rfl
  refine wp_mapput 108 9 105 _ _ _ rfl Tryz.underlying108 Tryz.underlying9 mo _ o (.agg #[.string p.drawer, vp]) rfl rfl rfl HMO.out ?_
  intro w3 hM3 hgr3
  replace hgr3 : w2.drew.grownBy w3 (some mo) := hgr3
  have st3 : ∀ j, j ≠ mo → j < w2.heap.size → w3.heap[j]? = w2.heap[j]? := fun j h1 h2 => hgr3.block j h2 (fun e => h1 (Option.some.inj e))
  have bmo : blkOf (V2 .out) = some mo := by rw [HVO.out]; rfl
  have hmf : Foot V mo := ⟨.out, by rw [← HE2.out]; exact bmo⟩
  have H3 : Hid (HouseAt w3 (V2.put (.pack o) vp) { S.set d c with out := out' }) := HH2.out.setOut (o := o) (out' := out') (vp := vp) (fun r j hr r1 r2 => st3 j (HH2.out.ne_ hr bmo r1) (HH2.out.lt ⟨r, hr⟩))
    (fun g' hg' => by
      rw [HVO.out] at hg'
      obtain rfl : mo = g' := by injection hg' with h; injection h
      refine hM3.congr fun x => ?_
      by_cases hx : x = o
      · rw [if_pos hx, if_pos hx, ho]
        rfl
      · rw [if_neg hx, if_neg hx]) hl (fun q hq => by
        rw [ho] at hq
        obtain rfl : p = q := by injection hq
        exact OwnI.same HP2.out fun i hi => st3 i (fun e => HFP.out i hi (by rw [e]; exact hmf)) (ownI_lt HP2.out hi)) (fun h => by rw [ho] at h; cases h) (fun i hi => Or.inr (HF2.out i hi))
  have HX3 : Hid ((w3.os = w.os ∧ w3.tape = w.tape ∧ w3.output = w.output ∧ w.heap.size ≤ w3.heap.size) ∧ ∀ j, j < w.heap.size → ¬ Foot V j → w3.heap[j]? = w.heap[j]?) := by
    have hz := HGR2.out.size
    refine ⟨⟨hgr3.os.trans HGR2.out.os, hgr3.tape.trans HGR2.out.tape, hgr3.output.trans HGR2.out.output, Nat.le_trans hz hgr3.size⟩, fun j hj hn => ?_⟩
    exact (st3 j (fun e => hn (by rw [e]; exact hmf)) (by omega)).trans (HGR2.out.block j hj (fun e => hn ⟨.chest d, by rw [HBG.out]; exact e.symm⟩))
  clear hgr3 st3 hM3 bmo hmf
  refine ⟨⟨_, rfl⟩, trivial, ?_⟩
  (try refine De.MidT.tail ?_)
  refine De.Tr.done (by kernel_rfl) ?_
  (try simp only [Act.put, De.l0, De.l1, De.l2])
  go_wp2_with (fail)
  go_end0
  exact ⟨rfl, H3.out, HX3.out⟩
end
end Dr
end Go.Proofs.YtbgakdpbglpfaaaGreatDoor
-- the text DrCc
namespace Go.Proofs.YtbgakdpbglpfaaaGreatDoor
open Go.RowKit
namespace Dr
set_option linter.unusedSimpArgs false
theorem zero_funcC (w : World) : (zeroValue 1).run Tryz.prog w = .ok .nilFunc w := Tryz.zeroValue1 w
theorem wpList_alloc_oneC {P : Program} {w : World} {ops : Array Oper} {rest : List Oper} {o : Oper} {a : Act} {Q : Exit → Act → World → Prop} (hgd : o.guard = none) (ty : TypeId) (z : Value) (ho : o.op = .alloc ty) (hz : ∀ w : World, (zeroValue ty).run P w = .ok z w) (hc : z.cells = #[z])
    (h : ∀ (w' : World) (g : Nat), Blk w' g ty #[z] → w.grownBy w' none → w.heap.size ≤ g → wpList P ops Q rest (a.put o.dst (.pointer (some ⟨g, 0, none⟩))) w') : wpList P ops Q (o :: rest) a w :=
  wpList_plain hgd fun _ hK => wp_alloc_one ty z ho hz hc fun w' g h1 h2 h3 => hK _ _ (h w' g h1 h2 h3)
theorem wpList_setcellC {P : Program} {w : World} {ops : Array Oper} {rest : List Oper} {o : Oper} {a : Act} {Q : Exit → Act → World → Prop} (hgd : o.guard = none) (ty : TypeId) (x y : Operand) (ho : o.op = .store ty x y) (g i : Nat) (v : Value) (hx : a.eval x = .pointer (some ⟨g, i, none⟩)) (hy : a.eval y = v)
    (hr : (Instr.storeAt ty (.pointer (some ⟨g, i, none⟩)) v).run P w = .ok () (w.setCell ⟨g, i, none⟩ v))
    (h : wpList P ops Q rest (a.put o.dst undef) (w.setCell ⟨g, i, none⟩ v)) : wpList P ops Q (o :: rest) a w :=
  wpList_plain hgd fun _ hK => wp_setcell ty x y ho g i v hx hy hr (hK _ _ h)
section
variable {w : World} {V : Vals} {S : House}
set_option maxRecDepth 100000 in
theorem returning_shut (H : HouseAt w V S) (o d : ByteArray) (pk : List Nat) (hp : lk o S.out = some ⟨d, pk⟩) (E : Int) (hE : E ≠ 0) (hor : openR V S d = .tuple #[.pointer none, .int .i64 E]) (hd : doP S (.back o) = (E, S)) :
    Calls Tryz.prog 238 #[.agg #[.string o], V .house] w (DoPost V S w (doP S (.back o))) := by
  obtain ⟨gh, hV, hBh⟩ := H.hs
  obtain ⟨mo, hVo, _⟩ := H.mo
  obtain ⟨pv, hpv⟩ : ∃ pv, V (.pack o) = pv := ⟨_, rfl⟩
  have HON : Hid (pv.oneCell' = true) := by
    obtain ⟨A, c, e, _⟩ := ownN_form (H.pk o _ hp)
    rw [hpv] at e
    rw [Hid, e]
    rfl
  have HLK : Hid (∀ (w' : World), Below w.heap.size w w' → (Instr.lookup 108 (.map (some mo)) (.string o) true).run Tryz.prog w' = .ok (.tuple #[.agg #[.string d, pv], .bool true]) w') := fun w' hb => by
    have h := H.lookO (fun g hg => hb.block g (H.lt hg)) hVo o
    rw [hp] at h
    rw [← hpv]
    exact h
  have HOP : Hid (∀ w', Below w.heap.size w w' → Calls Tryz.prog 216 #[V .house, .string d] w' fun e w2 => w2 = w' ∧ e = .returned (.tuple #[.pointer none, .int .i64 E])) := fun w' hb => by
    have h := open_any (H.callee hb) d
    rw [hor] at h
    exact h
  have HGH : Hid (Blk w gh 111 #[V .names, V .chests, .map (some mo), V .used]) := by rw [← hVo]; exact hBh
  have HP : Hid (∀ e w', e = .returned (.tuple #[.nilFunc, .int .i64 E]) → Below w.heap.size w w' → DoPost V S w (doP S (.back o)) e w') := fun e w' he hb => by
    rw [hd]
    exact .no H hE he hb
  rw [hV] at HOP ⊢
  have hE2 : (E != 0) = true := by simpa using hE
  have hE3 : (E == 0) = false := by simpa using hE
  generalize hPo : DoPost V S w (doP S (.back o)) = Po at HP ⊢
  clear hPo hV hBh H hp hVo hor hd hE hpv
  go_enter Tryz.func238, Tryz.ntmps238
  go_wp2_with (first
    | (with_reducible show wpList _ _ _ (⟨_, .box 214 _, _, _, _, _⟩ :: _) _ _
       refine wpList_box_cells rfl 214 _ rfl (.agg #[.string o]) #[.string o] rfl rfl ?_
       intro w1 g1 hG1 hgr1 hge1
       have hb1 := below_grown hgr1)
    | (with_reducible show wpList _ _ _ (⟨_, .box 37 _, _, _, _, _⟩ :: _) _ _
       refine wpList_box_cells rfl 37 _ rfl (.pointer (some ⟨gh, 0, none⟩)) #[.pointer (some ⟨gh, 0, none⟩)] rfl rfl ?_
       intro w2 g2 hG2 hgr2 hge2
       have hb12 := below_grown hgr2
       have hb2 := hb1.trans (hb12.mono hb1.size)))
  have HB2 := Lib.hid hb2
  have HG1 : Hid (Blk w2 g1 214 #[.string o]) := Blk.callee hG1 hb12
  have HG2 := Lib.hid hG2
  have KF : Hid (∀ w', Below w2.heap.size w2 w' → w'.cell? ⟨g2, 0, none⟩ = some (.pointer (some ⟨gh, 0, none⟩)) ∧ w'.cell? ⟨gh, 2, none⟩ = some (.map (some mo)) ∧ w'.cell? ⟨g1, 0, none⟩ = some (.string o) ∧
      (Instr.lookup 108 (.map (some mo)) (.string o) true).run Tryz.prog w' = .ok (.tuple #[.agg #[.string d, pv], .bool true]) w') := fun w' hb =>
    ⟨(HG2.out.callee hb).at_ 0 rfl, ((HGH.out.callee HB2.out).callee hb).at_ 2 rfl, (HG1.out.callee hb).at_ 0 rfl, HLK.out w' (HB2.out.trans (hb.mono HB2.out.size))⟩
  clear hb1 hgr1 hb12 hgr2 hb2 hG1 hG2 hge1 hge2
  refine De.region_tree (fun b w' => bif b then (True) else (w'.cell? ⟨g2, 0, none⟩ = some (.pointer (some ⟨gh, 0, none⟩)) ∧ w'.cell? ⟨gh, 2, none⟩ = some (.map (some mo)) ∧ w'.cell? ⟨g1, 0, none⟩ = some (.string o) ∧ (Instr.lookup 108 (.map (some mo)) (.string o) true).run Tryz.prog w' = .ok (.tuple #[.agg #[.string d, pv], .bool true]) w')) 11 2 (by kernel_rfl) (by kernel_rfl) (by decide) (KF.out _ (Below.refl _ _).drew) ?_
  (try simp only [Act.put, De.l0, De.l1, De.l2])
  refine De.MidT.read (o := ?o1) (v := ?v1) 0 (by decide) ?q1 (by kernel_rfl) (by kernel_rfl) ?w1 (by kernel_rfl) ?y1 ?h1
  case q1 => (simp only [De.g0, De.g1, De.g2]; rfl)
  case w1 => kernel_rfl
  case y1 => (intro w' hw'; obtain ⟨x1, x2, x3, x4⟩ := hw'; go_simp; (try with_reducible rfl))
  (try simp only [Act.put, De.l0, De.l1, De.l2])
  refine De.MidT.read (o := ?o2) (v := ?v2) 1 (by decide) ?q2 (by kernel_rfl) (by kernel_rfl) ?w2 (by kernel_rfl) ?y2 ?h2
  case q2 => (simp only [De.g0, De.g1, De.g2]; rfl)
  case w2 => kernel_rfl
  case y2 => (intro w' hw'; obtain ⟨x1, x2, x3, x4⟩ := hw'; go_simp; (try with_reducible rfl))
  (try simp only [Act.put, De.l0, De.l1, De.l2])
  refine De.MidT.read (o := ?o3) (v := ?v3) 2 (by decide) ?q3 (by kernel_rfl) (by kernel_rfl) ?w3 (by kernel_rfl) ?y3 ?h3
  case q3 => (simp only [De.g0, De.g1, De.g2]; rfl)
  case w3 => kernel_rfl
  case y3 => (intro w' hw'; obtain ⟨x1, x2, x3, x4⟩ := hw'; go_simp; (try with_reducible rfl))
  (try simp only [Act.put, De.l0, De.l1, De.l2])
  refine De.MidT.read (o := ?o4) (v := ?v4) 3 (by decide) ?q4 (by kernel_rfl) (by kernel_rfl) ?w4 (by kernel_rfl) ?y4 ?h4
  case q4 => (simp only [De.g0, De.g1, De.g2]; rfl)
  case w4 => kernel_rfl
  case y4 => (intro w' hw'; obtain ⟨x1, x2, x3, x4⟩ := hw'; go_simp; (try with_reducible rfl))
  (try simp only [Act.put, De.l0, De.l1, De.l2])
  refine De.MidT.read (o := ?o5) (v := ?v5) 4 (by decide) ?q5 (by kernel_rfl) (by kernel_rfl) ?w5 (by kernel_rfl) ?y5 ?h5
  case q5 => (simp only [De.g0, De.g1, De.g2]; rfl)
  case w5 => kernel_rfl
  case y5 => (intro w' hw'; obtain ⟨x1, x2, x3, x4⟩ := hw'; go_simp; (try with_reducible rfl))
  (try simp only [Act.put, De.l0, De.l1, De.l2])
  refine De.MidT.read (o := ?o6) (v := ?v6) 5 (by decide) ?q6 (by kernel_rfl) (by kernel_rfl) ?w6 (by kernel_rfl) ?y6 ?h6
  case q6 => (simp only [De.g0, De.g1, De.g2]; rfl)
  case w6 => kernel_rfl
  case y6 => (intro w' hw'; obtain ⟨x1, x2, x3, x4⟩ := hw'; go_simp; (try with_reducible rfl))
  (try simp only [Act.put, De.l0, De.l1, De.l2])
  refine De.MidT.read (o := ?o7) (v := ?v7) 6 (by decide) ?q7 (by kernel_rfl) (by kernel_rfl) ?w7 (by kernel_rfl) ?y7 ?h7
  case q7 => (simp only [De.g0, De.g1, De.g2]; rfl)
  case w7 => kernel_rfl
  case y7 => (intro w' hw'; obtain ⟨x1, x2, x3, x4⟩ := hw'; go_simp; (try with_reducible rfl))
  (try simp only [Act.put, De.l0, De.l1, De.l2])
  refine De.MidT.read (o := ?o8) (v := ?v8) 7 (by decide) ?q8 (by kernel_rfl) (by kernel_rfl) ?w8 (by kernel_rfl) ?y8 ?h8
  case q8 => (simp only [De.g0, De.g1, De.g2]; rfl)
  case w8 => kernel_rfl
  case y8 => (intro w' hw'; obtain ⟨x1, x2, x3, x4⟩ := hw'; go_simp; (try with_reducible rfl))
  (try simp only [Act.put, De.l0, De.l1, De.l2])
  refine De.MidT.read (o := ?o9) (v := ?v9) 8 (by decide) ?q9 (by kernel_rfl) (by kernel_rfl) ?w9 (by kernel_rfl) ?y9 ?h9
  case q9 => (simp only [De.g0, De.g1, De.g2]; rfl)
  case w9 => kernel_rfl
  case y9 => (intro w' hw'; obtain ⟨x1, x2, x3, x4⟩ := hw'; go_simp; (try with_reducible rfl))
  (try simp only [Act.put, De.l0, De.l1, De.l2])
  refine De.MidT.read2 (o := ?o10) (v := ?v10) 9 (by decide) ?q10 (by kernel_rfl) (by kernel_rfl) ?w10 ?y10 ?h10
  case q10 => (simp only [De.g0, De.g1, De.g2]; rfl)
  case w10 => kernel_rfl
  case y10 => (intro b w' hw'; clear hw'; go_simp; (try with_reducible rfl))
  (try simp only [Act.put, De.l0, De.l1, De.l2])
  (try refine De.MidT.tail ?_)
  refine De.Tr.one (i := 10) (o := ?o11) (by kernel_rfl) ?q11 ?g11 ?h11
  case q11 => (simp only [De.g0, De.g1, De.g2]; rfl)
  case g11 => rfl
  refine wp_alloc_agg 105 _ rfl zero_parcelC ?_
  intro w3 gp hG3 hgr3 hge3
  have hb3 : Below w2.heap.size w2 w3 := (Below.refl _ _).drew.trans (below_grown (w := w2.drew) hgr3)
  have HB3 := Lib.hid hb3
  refine ⟨⟨_, rfl⟩, KF.out _ hb3, ?_⟩
  (try simp only [Act.put, De.l0, De.l1, De.l2])
  (try refine De.MidT.tail ?_)
  refine De.Tr.one (i := 11) (o := ?o12) (by kernel_rfl) ?q12 ?g12 ?h12
  case q12 => (simp only [De.g0, De.g1, De.g2]; rfl)
  case g12 => rfl
  refine wp_store_blk 105 _ _ rfl gp #[.string d, pv] rfl rfl 105 _ hG3 info_parcelC rfl (by simpa [Value.oneCell'] using HON.out) ?_
  intro w4 hG4 hgr4
  have HB24 : Hid (Below w2.heap.size w2 w4) := below_some HB3.out hgr4 HB3.out.size hge3
  have HB4 : Hid (Below w.heap.size w w4) := HB2.out.trans (HB24.out.mono HB2.out.size)
  have HG4 := Lib.hid hG4
  have c4 : w4.cell? ⟨gp, 0, none⟩ = some (.string d) := hG4.at_ 0 rfl
  have c42 : w4.cell? ⟨g2, 0, none⟩ = some (.pointer (some ⟨gh, 0, none⟩)) := (KF.out _ HB24.out).1
  refine ⟨⟨_, rfl⟩, trivial, ?_⟩
  clear hgr3 hge3 hb3 hgr4 hG3 hG4
  (try simp only [Act.put, De.l0, De.l1, De.l2])
  refine De.MidT.read2 (o := ?o13) (v := ?v13) 12 (by decide) ?q13 (by kernel_rfl) (by kernel_rfl) ?w13 ?y13 ?h13
  case q13 => (simp only [De.g0, De.g1, De.g2]; rfl)
  case w13 => kernel_rfl
  case y13 => (intro b w' hw'; clear hw'; go_simp; (try with_reducible rfl))
  (try simp only [Act.put, De.l0, De.l1, De.l2])
  (try refine De.MidT.tail ?_)
  refine De.Tr.done (by kernel_rfl) ?_
  (try simp only [Act.put, De.l0, De.l1, De.l2])
  go_wp2_with (go_at_call 216; (with_reducible refine (HOP.out _ HB4.out).mono ?_); rintro e w5 ⟨hw5, rfl⟩; replace hw5 := hw5.symm; subst hw5)
  exact HP.out _ _ rfl HB4.out
end
end Dr
end Go.Proofs.YtbgakdpbglpfaaaGreatDoor
-- the text DrCd
namespace Go.Proofs.YtbgakdpbglpfaaaGreatDoor
open Go.RowKit
namespace Dr
set_option linter.unusedSimpArgs false
/-- a packet goes into a stock -/
theorem stock_set {w : World} {V : Vals} {S : House} {d : ByteArray} {c : Chest} {gk n ck i : Nat} (H : HouseAt w V S) (hk : lk d S.chests = some c) (hV : V (.stock d) = .slice (some ⟨gk, 0, none⟩) n ck) (x : Nat) :
    HouseAt (w.setCell ⟨gk, i, none⟩ (.int .i64 (x : Int))) V (S.set d { c with stock := c.stock.set i x }) := by
  have CA := H.ch d c hk
  obtain ⟨g, hg, hB⟩ := CA.at_
  have bg : blkOf (V (.chest d)) = some g := by rw [hg]; rfl
  have bk : blkOf (V (.stock d)) = some gk := by rw [hV]; rfl
  have st : ∀ j, j ≠ gk → (w.setCell ⟨gk, i, none⟩ (.int .i64 (x : Int))).heap[j]? = w.heap[j]? := fun j hj => Below.heap_setCell w ⟨gk, i, none⟩ _ j hj
  have far : ∀ {r : Role} {j : Nat}, blkOf (V r) = some j → r ≠ .stock d → (w.setCell ⟨gk, i, none⟩ (.int .i64 (x : Int))).heap[j]? = w.heap[j]? := fun hr r1 => st _ (H.ne_ hr bk r1)
  have hs := CA.stock
  obtain ⟨A, c', hf, _⟩ := ownN_form hs
  have hn : n = c.stock.length := by
    rw [hV] at hf
    injection hf
  rw [hV] at hs
  have h := H.setChest (w' := w.setCell ⟨gk, i, none⟩ (.int .i64 (x : Int))) (c' := { c with stock := c.stock.set i x }) hk (fun r j hr r1 _ r3 _ => far hr r3) (vs := V (.sizes d)) (vk := V (.stock d)) (vo := V (.outs d))
    ⟨⟨g, hg, (st g (H.ne_ bg bk (by simp))).trans hB⟩, OwnI.same CA.sizes fun j hj => far hj (by simp), by rw [hV]; exact ownN_set hs hn i x, OwnS.same CA.out fun j hj => far hj (by simp)⟩
    (.self _ _) (.self _ _) (.self _ _) (H.apart (by simp)) (H.apart (by simp)) (H.apart (by simp))
  rw [updC_same] at h
  exact h
theorem set_set (S : House) (d : ByteArray) (a b : Chest) : (S.set d a).set d b = S.set d b := by
  unfold House.set
  rw [setA_setA]
theorem lk_set {S : House} {d : ByteArray} {c c' : Chest} (h : lk d S.chests = some c) : lk d (S.set d c').chests = some c' := by
  show lk d (setA d c' S.chests) = _
  rw [lk_setA h, if_pos rfl]
section
variable {w : World} {V : Vals} {S : House}
set_option maxRecDepth 100000 in
set_option maxHeartbeats 4000000 in
theorem returning_go (H : HouseAt w V S) (hS : Oks S) (hnd : (S.out.map (·.1)).Nodup) (o d : ByteArray) (pk : List Nat) (hp : lk o S.out = some ⟨d, pk⟩) {c : Chest} (hk : lk d S.chests = some c) (hs : c.shut = false) (hoo : o ∈ c.out) (hpl : pk.length ≤ 200) (hin : ∀ s ∈ pk, s ∈ c.sizes) (hor : openR V S d = .tuple #[V (.chest d), .int .i64 0]) :
    Calls Tryz.prog 238 #[.agg #[.string o], V .house] w (DoPost V S w (doP S (.back o))) := by
  have hco := hS d c hk
  obtain ⟨⟨g, hg, hB⟩, hsz, hst, hou⟩ := H.ch d c hk
  obtain ⟨gh, hV, hBh⟩ := H.hs
  obtain ⟨mo, hVo, _⟩ := H.mo
  obtain ⟨Ap, cp, hpf, hcp1, hcp2, _, hApn⟩ := ownN_form (H.pk o _ hp)
  obtain ⟨pv, hpv⟩ : ∃ pv, V (.pack o) = pv := ⟨_, rfl⟩
  have HPV := Lib.hid hpv
  have HON : Hid (pv.oneCell' = true) := by
    rw [Hid, ← hpv, hpf]
    rfl
  have HLK : Hid (∀ (w' : World), Below w.heap.size w w' → (Instr.lookup 108 (.map (some mo)) (.string o) true).run Tryz.prog w' = .ok (.tuple #[.agg #[.string d, pv], .bool true]) w') := fun w' hb => by
    have h := H.lookO (fun g hg => hb.block g (H.lt hg)) hVo o
    rw [hp] at h
    rw [← hpv]
    exact h
  have HOP : Hid (∀ w', Below w.heap.size w w' → Calls Tryz.prog 216 #[V .house, .string d] w' fun e w2 => w2 = w' ∧ e = .returned (.tuple #[.pointer (some ⟨g, 0, none⟩), .int .i64 0])) := fun w' hb => by
    have h := open_any (H.callee hb) d
    rw [hor, hg] at h
    exact h
  have HCH : Hid (∀ w', Below w.heap.size w w' → Calls Tryz.prog 209 #[.pointer (some ⟨g, 0, none⟩)] w' fun e w4 => ∃ g1 g2 ws wk wo, e = .returned (.func (.func 219) #[] #[.pointer (some ⟨g2, 0, none⟩), .pointer (some ⟨g1, 0, none⟩)]) ∧ Kept w' w4 g g1 g2 ws wk wo c) := fun w' hb => by
    have h := ((H.callee hb).ch d c hk)
    rw [hg] at h
    exact change_any (by have := hco.five; omega) (by have := hco.five; have := hco.len; omega) (by have := hco.outl; omega) h
  have HGH : Hid (Blk w gh 111 #[V .names, V .chests, .map (some mo), V .used]) := by rw [← hVo]; exact hBh
  rw [hV] at HOP ⊢
  generalize hPo : DoPost V S w (doP S (.back o)) = Po
  have HPO := Lib.hid hPo
  have HH := Lib.hid H
  have HCO := Lib.hid hco
  have HG := Lib.hid hg
  have HKC := Lib.hid hk
  have HPP := Lib.hid hp
  have HSH := Lib.hid hs
  have HBB := Lib.hid hB
  have HVH := Lib.hid hV
  have HVO := Lib.hid hVo
  have HOO := Lib.hid hoo
  have HIN := Lib.hid hin
  have HND := Lib.hid hnd
  obtain ⟨np, hnp⟩ : ∃ np, pk.length = np := ⟨_, rfl⟩
  have HNP := Lib.hid hnp
  simp only at hpf hcp1 hApn
  rw [hnp] at hpf hcp1 hpl hApn
  have HPF : Hid (pv = .slice Ap np cp) := by rw [Hid, ← hpv]; exact hpf
  have HAP := Lib.hid hApn
  have hgl := hB.lt
  unfold maxLen at hcp2
  clear hPo hV hB hBh H hk hs hp hor hS hco hg hsz hst hou hVo hpv hpf hnp hoo hin hApn hnd
  go_enter Tryz.func238, Tryz.ntmps238
  go_wp2_with (first
    | (with_reducible show wpList _ _ _ (⟨_, .box 214 _, _, _, _, _⟩ :: _) _ _
       refine wpList_box_cells rfl 214 _ rfl (.agg #[.string o]) #[.string o] rfl rfl ?_
       intro w1 g1 hG1 hgr1 hge1
       have hb1 := below_grown hgr1)
    | (with_reducible show wpList _ _ _ (⟨_, .box 37 _, _, _, _, _⟩ :: _) _ _
       refine wpList_box_cells rfl 37 _ rfl (.pointer (some ⟨gh, 0, none⟩)) #[.pointer (some ⟨gh, 0, none⟩)] rfl rfl ?_
       intro w2 g2 hG2 hgr2 hge2
       have hb12 := below_grown hgr2
       have hb2 := hb1.trans (hb12.mono hb1.size)))
  have HB2 := Lib.hid hb2
  have HE1 : Hid (w.heap.size ≤ g1 ∧ w.heap.size ≤ g2 ∧ g1 < g2) := ⟨hge1, Nat.le_trans hb1.size hge2, by have := hG1.lt; omega⟩
  have HG1 : Hid (Blk w2 g1 214 #[.string o]) := Blk.callee hG1 hb12
  have HG2 := Lib.hid hG2
  have KF : Hid (∀ w', Below w2.heap.size w2 w' → w'.cell? ⟨g2, 0, none⟩ = some (.pointer (some ⟨gh, 0, none⟩)) ∧ w'.cell? ⟨gh, 2, none⟩ = some (.map (some mo)) ∧ w'.cell? ⟨g1, 0, none⟩ = some (.string o) ∧
      (Instr.lookup 108 (.map (some mo)) (.string o) true).run Tryz.prog w' = .ok (.tuple #[.agg #[.string d, pv], .bool true]) w') := fun w' hb =>
    ⟨(HG2.out.callee hb).at_ 0 rfl, ((HGH.out.callee HB2.out).callee hb).at_ 2 rfl, (HG1.out.callee hb).at_ 0 rfl, HLK.out w' (HB2.out.trans (hb.mono HB2.out.size))⟩
  clear hb1 hgr1 hb12 hgr2 hb2 hG1 hG2 hge1 hge2
  refine De.region_tree (fun b w' => bif b then (True) else (w'.cell? ⟨g2, 0, none⟩ = some (.pointer (some ⟨gh, 0, none⟩)) ∧ w'.cell? ⟨gh, 2, none⟩ = some (.map (some mo)) ∧ w'.cell? ⟨g1, 0, none⟩ = some (.string o) ∧ (Instr.lookup 108 (.map (some mo)) (.string o) true).run Tryz.prog w' = .ok (.tuple #[.agg #[.string d, pv], .bool true]) w')) 11 2 (by kernel_rfl) (by kernel_rfl) (by decide) (KF.out _ (Below.refl _ _).drew) ?_
  (try simp only [Act.put, De.l0, De.l1, De.l2])
  refine De.MidT.read (o := ?o1) (v := ?v1) 0 (by decide) ?q1 (by kernel_rfl) (by kernel_rfl) ?w1 (by kernel_rfl) ?y1 ?h1
  case q1 => (simp only [De.g0, De.g1, De.g2]; rfl)
  case w1 => kernel_rfl
  case y1 => (intro w' hw'; obtain ⟨x1, x2, x3, x4⟩ := hw'; go_simp; (try with_reducible rfl))
  (try simp only [Act.put, De.l0, De.l1, De.l2])
  refine De.MidT.read (o := ?o2) (v := ?v2) 1 (by decide) ?q2 (by kernel_rfl) (by kernel_rfl) ?w2 (by kernel_rfl) ?y2 ?h2
  case q2 => (simp only [De.g0, De.g1, De.g2]; rfl)
  case w2 => kernel_rfl
  case y2 => (intro w' hw'; obtain ⟨x1, x2, x3, x4⟩ := hw'; go_simp; (try with_reducible rfl))
  (try simp only [Act.put, De.l0, De.l1, De.l2])
  refine De.MidT.read (o := ?o3) (v := ?v3) 2 (by decide) ?q3 (by kernel_rfl) (by kernel_rfl) ?w3 (by kernel_rfl) ?y3 ?h3
  case q3 => (simp only [De.g0, De.g1, De.g2]; rfl)
  case w3 => kernel_rfl
  case y3 => (intro w' hw'; obtain ⟨x1, x2, x3, x4⟩ := hw'; go_simp; (try with_reducible rfl))
  (try simp only [Act.put, De.l0, De.l1, De.l2])
  refine De.MidT.read (o := ?o4) (v := ?v4) 3 (by decide) ?q4 (by kernel_rfl) (by kernel_rfl) ?w4 (by kernel_rfl) ?y4 ?h4
  case q4 => (simp only [De.g0, De.g1, De.g2]; rfl)
  case w4 => kernel_rfl
  case y4 => (intro w' hw'; obtain ⟨x1, x2, x3, x4⟩ := hw'; go_simp; (try with_reducible rfl))
  (try simp only [Act.put, De.l0, De.l1, De.l2])
  refine De.MidT.read (o := ?o5) (v := ?v5) 4 (by decide) ?q5 (by kernel_rfl) (by kernel_rfl) ?w5 (by kernel_rfl) ?y5 ?h5
  case q5 => (simp only [De.g0, De.g1, De.g2]; rfl)
  case w5 => kernel_rfl
  case y5 => (intro w' hw'; obtain ⟨x1, x2, x3, x4⟩ := hw'; go_simp; (try with_reducible rfl))
  (try simp only [Act.put, De.l0, De.l1, De.l2])
  refine De.MidT.read (o := ?o6) (v := ?v6) 5 (by decide) ?q6 (by kernel_rfl) (by kernel_rfl) ?w6 (by kernel_rfl) ?y6 ?h6
  case q6 => (simp only [De.g0, De.g1, De.g2]; rfl)
  case w6 => kernel_rfl
  case y6 => (intro w' hw'; obtain ⟨x1, x2, x3, x4⟩ := hw'; go_simp; (try with_reducible rfl))
  (try simp only [Act.put, De.l0, De.l1, De.l2])
  refine De.MidT.read (o := ?o7) (v := ?v7) 6 (by decide) ?q7 (by kernel_rfl) (by kernel_rfl) ?w7 (by kernel_rfl) ?y7 ?h7
  case q7 => (simp only [De.g0, De.g1, De.g2]; rfl)
  case w7 => kernel_rfl
  case y7 => (intro w' hw'; obtain ⟨x1, x2, x3, x4⟩ := hw'; go_simp; (try with_reducible rfl))
  (try simp only [Act.put, De.l0, De.l1, De.l2])
  refine De.MidT.read (o := ?o8) (v := ?v8) 7 (by decide) ?q8 (by kernel_rfl) (by kernel_rfl) ?w8 (by kernel_rfl) ?y8 ?h8
  case q8 => (simp only [De.g0, De.g1, De.g2]; rfl)
  case w8 => kernel_rfl
  case y8 => (intro w' hw'; obtain ⟨x1, x2, x3, x4⟩ := hw'; go_simp; (try with_reducible rfl))
  (try simp only [Act.put, De.l0, De.l1, De.l2])
  refine De.MidT.read (o := ?o9) (v := ?v9) 8 (by decide) ?q9 (by kernel_rfl) (by kernel_rfl) ?w9 (by kernel_rfl) ?y9 ?h9
  case q9 => (simp only [De.g0, De.g1, De.g2]; rfl)
  case w9 => kernel_rfl
  case y9 => (intro w' hw'; obtain ⟨x1, x2, x3, x4⟩ := hw'; go_simp; (try with_reducible rfl))
  (try simp only [Act.put, De.l0, De.l1, De.l2])
  refine De.MidT.read2 (o := ?o10) (v := ?v10) 9 (by decide) ?q10 (by kernel_rfl) (by kernel_rfl) ?w10 ?y10 ?h10
  case q10 => (simp only [De.g0, De.g1, De.g2]; rfl)
  case w10 => kernel_rfl
  case y10 => (intro b w' hw'; clear hw'; go_simp; (try with_reducible rfl))
  (try simp only [Act.put, De.l0, De.l1, De.l2])
  (try refine De.MidT.tail ?_)
  refine De.Tr.one (i := 10) (o := ?o11) (by kernel_rfl) ?q11 ?g11 ?h11
  case q11 => (simp only [De.g0, De.g1, De.g2]; rfl)
  case g11 => rfl
  refine wp_alloc_agg 105 _ rfl zero_parcelC ?_
  intro w3 gp hG3 hgr3 hge3
  have hb3 : Below w2.heap.size w2 w3 := (Below.refl _ _).drew.trans (below_grown (w := w2.drew) hgr3)
  have HB3 := Lib.hid hb3
  refine ⟨⟨_, rfl⟩, KF.out _ hb3, ?_⟩
  (try simp only [Act.put, De.l0, De.l1, De.l2])
  (try refine De.MidT.tail ?_)
  refine De.Tr.one (i := 11) (o := ?o12) (by kernel_rfl) ?q12 ?g12 ?h12
  case q12 => (simp only [De.g0, De.g1, De.g2]; rfl)
  case g12 => rfl
  refine wp_store_blk 105 _ _ rfl gp #[.string d, pv] rfl rfl 105 _ hG3 info_parcelC rfl (by simpa [Value.oneCell'] using HON.out) ?_
  intro w4 hG4 hgr4
  have HB24 : Hid (Below w2.heap.size w2 w4) := below_some HB3.out hgr4 HB3.out.size hge3
  have HB4 : Hid (Below w.heap.size w w4) := HB2.out.trans (HB24.out.mono HB2.out.size)
  have HG4 := Lib.hid hG4
  have HGP : Hid (w.heap.size ≤ gp ∧ gp < w4.heap.size) := ⟨Nat.le_trans HB2.out.size hge3, hG4.lt⟩
  have HG14 : Hid (Blk w4 g1 214 #[.string o]) := Blk.callee HG1.out HB24.out
  have HG24 : Hid (Blk w4 g2 37 #[.pointer (some ⟨gh, 0, none⟩)]) := Blk.callee HG2.out HB24.out
  have c4 : w4.cell? ⟨gp, 0, none⟩ = some (.string d) := HG4.out.at_ 0 rfl
  have c42 : w4.cell? ⟨g2, 0, none⟩ = some (.pointer (some ⟨gh, 0, none⟩)) := (KF.out _ HB24.out).1
  refine ⟨⟨_, rfl⟩, trivial, ?_⟩
  clear hgr3 hge3 hb3 hgr4 hG3 hG4
  (try simp only [Act.put, De.l0, De.l1, De.l2])
  refine De.MidT.read2 (o := ?o13) (v := ?v13) 12 (by decide) ?q13 (by kernel_rfl) (by kernel_rfl) ?w13 ?y13 ?h13
  case q13 => (simp only [De.g0, De.g1, De.g2]; rfl)
  case w13 => kernel_rfl
  case y13 => (intro b w' hw'; clear hw'; go_simp; (try with_reducible rfl))
  (try simp only [Act.put, De.l0, De.l1, De.l2])
  (try refine De.MidT.tail ?_)
  refine De.Tr.done (by kernel_rfl) ?_
  (try simp only [Act.put, De.l0, De.l1, De.l2])
  go_wp2_with (go_at_call 216; (with_reducible refine (HOP.out _ HB4.out).mono ?_); rintro e w5 ⟨hw5, rfl⟩; replace hw5 := hw5.symm; subst hw5)
  clear c4 c42
  go_wp2_with (first
    | (go_at_call 209; (with_reducible refine (HCH.out _ HB4.out).mono ?_)
       rintro e w5 ⟨g3, g4, ws, wk, wo, rfl, hK⟩
       have HK := Lib.hid hK
       have HB5 : Hid (Below w.heap.size w w5) := HB4.out.trans (hK.be.mono HB4.out.size))
    | (with_reducible show wpList _ _ _ (⟨_, .alloc 1, _, _, _, _⟩ :: _) _ _
       refine wpList_alloc_oneC rfl 1 .nilFunc rfl zero_funcC rfl ?_
       intro w6 g6 hG6 hgr6 hge6
       have c6 : w6.cell? ⟨g6, 0, none⟩ = some .nilFunc := hG6.at_ 0 rfl
       have f6 := hG6.frozen 0)
    | (with_reducible show wpList _ _ _ (⟨_, .store 1 _ _, _, _, _, _⟩ :: _) _ _
       refine wpList_setcellC rfl 1 _ _ rfl g6 0 (.func (.func 219) #[] #[.pointer (some ⟨g4, 0, none⟩), .pointer (some ⟨g3, 0, none⟩)]) rfl rfl (by go_simp) ?_
       obtain ⟨w7, hw7⟩ : ∃ y, y = w6.setCell ⟨g6, 0, none⟩ (.func (.func 219) #[] #[.pointer (some ⟨g4, 0, none⟩), .pointer (some ⟨g3, 0, none⟩)]) := ⟨_, rfl⟩
       rw [← hw7]
       have HG6 : Hid (Blk w7 g6 1 #[undoFC g4 g3]) := by rw [hw7]; exact hG6.set_ 0 _
       have HG6G : Hid (w5.heap.size ≤ g6) := hge6
       have HB57 : Hid (Below w5.heap.size w5 w7) := by rw [hw7]; exact (below_grown hgr6).setCell hge6 _
       have HB47 : Hid (Below w4.heap.size w4 w7) := hK.be.trans (HB57.out.mono hK.be.size)
       have d71 : w7.cell? ⟨gp, 1, none⟩ = some (.slice Ap np cp) := (Blk.callee HG4.out HB47.out).at_ 1 (congrArg some HPF.out)
       clear hw7 c6 f6 hG6 hgr6 hge6))
  clear d71 hK
  have bk0 : ∀ {j : Nat}, blkOf (V (.stock d)) = some j → j < w.heap.size := fun h => HH.out.lt ⟨_, h⟩
  have z4 := HB4.out.size
  have z45 := HK.out.be.size
  have z57 := HB57.out.size
  have HB7 : Hid (Below w.heap.size w w7) := HB5.out.trans (HB57.out.mono HB5.out.size)
  have H7 : Hid (HouseAt w7 V (S.set d { c with stock := c.stock })) := by
    have e : S.set d { c with stock := c.stock } = S := by
      show S.set d c = S
      unfold House.set
      rw [setA_self HKC.out]
    rw [e]
    exact HH.out.callee HB7.out
  -- taking it back, whatever the stock is
  have HUN : Hid (∀ (W : World) (c0 : Chest), HouseAt W V (S.set d c0) → (∀ j, w4.heap.size ≤ j → j < w5.heap.size → W.heap[j]? = w5.heap[j]?) → Calls Tryz.prog 219 #[.pointer (some ⟨g4, 0, none⟩), .pointer (some ⟨g3, 0, none⟩)] W fun e w' => e = .returned (.tuple #[]) ∧ HouseAt w' (updC V d ws wk wo) S ∧ W.grownBy w' (some g)) := fun W c0 hW hnew => by
    have K := HK.out
    have nf : ∀ i, w4.heap.size ≤ i → ¬ Foot V i := fun i hi hf => by
      have := HH.out.lt hf
      have := HB4.out.size
      omega
    have h := undo_chest (c := c) hW (lk_set HKC.out) HG.out ((hnew g3 K.n1 K.b1.lt).trans K.b1) ((hnew g4 K.n2 K.b2.lt).trans K.b2) (OwnI.same K.sizes.1 fun i hi => hnew i (K.sizes.2 i hi) (ownI_lt K.sizes.1 hi)) (OwnI.same K.stock.1 fun i hi => hnew i (K.stock.2 i hi) (ownI_lt K.stock.1 hi)) (OwnS.same K.out.1 fun i hi => hnew i (K.out.2 i hi) (ownS_lt K.out.1 hi))
      (fun i hi => nf i (K.sizes.2 i hi)) (fun i hi => nf i (K.stock.2 i hi)) (fun i hi => nf i (K.out.2 i hi)) K.d1 K.d2 K.d3
    rw [set_back HKC.out] at h
    exact h
  go_loopw [42] (fun v wr => ∃ (i : Nat) (ms : List Nat), i ≤ np ∧ v = .int .i64 (i : Int) ∧ Hid (HouseAt wr V (S.set d { c with stock := ms })) ∧ Hid (backP c.sizes (pk.drop i) ms = backP c.sizes pk c.stock) ∧ Hid (ms.length = c.sizes.length ∧ ∀ x ∈ ms, x ≤ 40) ∧ Hid (∀ j, j < w7.heap.size → blkOf (V (.stock d)) ≠ some j → wr.heap[j]? = w7.heap[j]?) ∧ Hid (wr.os = w7.os ∧ wr.tape = w7.tape ∧ wr.output = w7.output ∧ wr.heap.size = w7.heap.size)) (fun v _ => np - (intOf v).toNat)
  case atStart => exact ⟨0, c.stock, Nat.zero_le _, rfl, H7.out, by rw [List.drop_zero]; exact rfl, ⟨HCO.out.len, HCO.out.stk⟩, fun _ _ _ => rfl, rfl, rfl, rfl, rfl⟩
  case round =>
    obtain ⟨i, ms, hins, rfl, hHR, hBK, hML, hFA, hEX⟩ := hrel
    by_cases hlt : i < np
    · have hlti : (i : Int) < np := by omega
      have hi0 : (0 : Int) ≤ i := by omega
      obtain ⟨gpk, rfl⟩ := HAP.out (by omega)
      obtain ⟨s, hsI⟩ : ∃ s, pk[i]? = some s := ⟨_, List.getElem?_eq_getElem (by rw [HNP.out]; exact hlt)⟩
      have hcs : c.sizes.contains s = true := by simpa using HIN.out s (List.mem_of_getElem? hsI)
      obtain ⟨hjl, _⟩ := pos_lt HCO.out.srt hcs
      obtain ⟨j, hj⟩ : ∃ j, pos s c.sizes = j := ⟨_, rfl⟩
      rw [hj] at hjl
      obtain ⟨x, hx⟩ : ∃ x, ms[j]? = some x := ⟨_, List.getElem?_eq_getElem (by rw [hML.out.1]; exact hjl)⟩
      have hx40 := hML.out.2 x (List.mem_of_getElem? hx)
      have hgd : ms.getD j 0 = x := by rw [List.getD_eq_getElem?_getD, hx]; rfl
      have hstep : backP c.sizes pk c.stock = if 40 < x + 1 then none else backP c.sizes (pk.drop (i + 1)) (ms.set j (x + 1)) := by
        rw [← hBK.out]
        obtain ⟨h1, h2⟩ := List.getElem?_eq_some_iff.1 hsI
        rw [List.drop_eq_getElem_cons h1, h2, backP, hj, hgd]
      have CR := hHR.out.ch d _ (lk_set HKC.out)
      obtain ⟨Ak, ck, hVk, hck1, hck2, _, hAk⟩ := ownN_form CR.stock
      have hCs := CR.stock
      have hCz := CR.sizes
      obtain ⟨g', hg', hBR⟩ := CR.at_
      obtain rfl : g = g' := by rw [HG.out] at hg'; injection hg' with h; injection h with h; injection h
      simp only at hVk hck1 hAk hCs hCz hBR
      have hms := hML.out.1
      obtain ⟨gk, rfl⟩ := hAk (by rw [hms]; omega)
      obtain ⟨ns, hns⟩ : ∃ ns, c.sizes.length = ns := ⟨_, rfl⟩
      rw [hms, hns] at hVk hck1
      rw [hns] at hjl
      have h5 : ns ≤ 5 := by rw [← hns]; exact HCO.out.five
      obtain ⟨cK, fK⟩ := ownN_cell (by rw [← hVk]; exact hCs) (by rw [hms, hns]) hx
      have cG0 : wr.cell? ⟨g, 0, none⟩ = some (V (.sizes d)) := hBR.at_ 0 rfl
      have cG1 : wr.cell? ⟨g, 1, none⟩ = some (.slice (some ⟨gk, 0, none⟩) ns ck) := hBR.at_ 1 (congrArg some hVk)
      have hse := search_any hCz (by rw [hns]; omega) HCO.out.srt s
      rw [hj, hcs] at hse
      have HSE := Lib.hid hse
      have cP : wr.cell? ⟨gpk, i, none⟩ = some (.int .i64 (s : Int)) := by
        have h := hHR.out.pk o ⟨d, pk⟩ HPP.out
        rw [HPV.out, HPF.out] at h
        exact (ownN_cell h HNP.out.symm hsI).1
      have hwx : IntKind.i64.wrap ((x : Int) + 1) = (x : Int) + 1 := IntWalk.i64_in _ (by omega)
      have hj0 : (0 : Int) ≤ j := by omega
      have hjn : (j : Int) < ns := by omega
      have HVK := Lib.hid hVk
      have bkk : blkOf (V (.stock d)) = some gk := by rw [hVk]; rfl
      have HBK := Lib.hid bkk
      have HSTEP := Lib.hid hstep
      have NGK : Hid (g ≠ gk ∧ gk < w.heap.size ∧ g < w.heap.size) := ⟨HH.out.ne_ (r := .chest d) (by rw [HG.out]; rfl) bkk (by simp), bk0 bkk, hgl⟩
      have HMS : Hid (ms.length = ns) := by rw [Hid, hms, hns]
      have HNS := Lib.hid hns
      clear hse hVk hck2 hms hns hstep hgd hx hj hcs hsI CR hCs hCz hBR hg' hAk bkk
      have HWA : Hid (∀ (q : Nat) (wa : World), wa = (wr.drewN q).setCell ⟨gk, j, none⟩ (.int .i64 ((x : Int) + 1)) → HouseAt wa V (S.set d { c with stock := ms.set j (x + 1) }) ∧ wa.cell? ⟨g, 1, none⟩ = some (.slice (some ⟨gk, 0, none⟩) ns ck) ∧ wa.cell? ⟨gk, j, none⟩ = some (.int .i64 ((x : Int) + 1)) ∧
          (∀ k, k < w7.heap.size → k ≠ gk → wa.heap[k]? = w7.heap[k]?) ∧ wa.os = w7.os ∧ wa.tape = w7.tape ∧ wa.output = w7.output ∧ wa.heap.size = w7.heap.size) := fun q wa hwa => by
        have h := stock_set (i := j) (hHR.out.drewN q) (lk_set HKC.out) HVK.out (x + 1)
        rw [set_set, show ((x + 1 : Nat) : Int) = (x : Int) + 1 by omega, ← hwa] at h
        have C := h.ch d _ (lk_set HKC.out)
        obtain ⟨g', hg', hBR⟩ := C.at_
        obtain rfl : g = g' := by rw [HG.out] at hg'; injection hg' with h; injection h with h; injection h
        refine ⟨h, hBR.at_ 1 (congrArg some HVK.out), ?_, fun k h1 h2 => ?_, by rw [hwa]; exact hEX.out.1, by rw [hwa]; exact hEX.out.2.1, by rw [hwa]; exact hEX.out.2.2.1, by rw [hwa]; simpa using hEX.out.2.2.2⟩
        · have hs := C.stock
          rw [HVK.out] at hs
          have := (ownN_cell hs (by show ns = (ms.set j (x + 1)).length; rw [List.length_set, HMS.out]) (i := j) (x := x + 1) (by show (ms.set j (x + 1))[j]? = _; rw [List.getElem?_set_self (by rw [HMS.out]; exact hjl)])).1
          rw [this, show ((x + 1 : Nat) : Int) = (x : Int) + 1 by omega]
        · rw [hwa]
          exact (Below.heap_setCell (wr.drewN q) ⟨gk, j, none⟩ _ k h2).trans (hFA.out k h1 (fun e => h2 (by rw [HBK.out] at e; exact (Option.some.inj e).symm)))
      by_cases h40 : 40 < x + 1
      · have hov : (40 : Int) < (x : Int) + 1 := by omega
        go_wp2_with (first
          | (go_at_call 217; (with_reducible refine HSE.out.mono ?_); rintro e w8 ⟨rfl, q, rfl⟩)
          | (with_reducible show wpList _ _ _ (⟨_, .store 3 _ _, _, _, _, _⟩ :: _) _ _
             refine wpList_setcellC rfl 3 _ _ rfl gk j (.int .i64 ((x : Int) + 1)) rfl rfl (by go_simp) ?_
             obtain ⟨wa, hwa⟩ : ∃ y, y = (wr.drewN q).setCell ⟨gk, j, none⟩ (.int .i64 ((x : Int) + 1)) := ⟨_, rfl⟩
             rw [← hwa]
             obtain ⟨hHA, e1, e2, hfa, hx1⟩ := HWA.out q wa hwa
             have HHA := Lib.hid hHA
             have HFF := Lib.hid hfa
             have HXA := Lib.hid hx1
             have HNW : Hid (∀ k, w4.heap.size ≤ k → k < w5.heap.size → wa.heap[k]? = w5.heap[k]?) := fun k h1 h2 => (hfa k (by omega) (by have := NGK.out.2.1; omega)).trans (HB57.out.block k h2)
             have e6 : wa.cell? ⟨g6, 0, none⟩ = some (.func (.func 219) #[] #[.pointer (some ⟨g4, 0, none⟩), .pointer (some ⟨g3, 0, none⟩)]) := by
               have hb : Blk wa g6 _ _ := (hfa g6 HG6.out.lt (by have := HG6G.out; have := NGK.out.2.1; omega)).trans HG6.out
               exact hb.at_ 0 rfl
             clear hwa hHA hfa hx1)
          | (go_at_call 219; (with_reducible refine (HUN.out wa _ HHA.out HNW.out).mono ?_)
             rintro e w9 ⟨rfl, hH9, hgr9⟩
             have HH9 := Lib.hid hH9
             have HGR9 := Lib.hid hgr9
             clear hH9 hgr9))
        have hb0 : backP c.sizes pk c.stock = none := by rw [HSTEP.out, if_pos h40]
        rw [← HPO.out, show doP S (.back o) = (15, S) by simp [doP, HPP.out, HKC.out, HSH.out, hb0]]
        have X1 := HXA.out
        have Y1 := HB7.out
        have Z1 := HGR9.out
        have zz := Z1.size
        refine Or.inl ⟨by simp, rfl, _, HH9.out, updC_house _ _ _ _ _, Z1.os.trans (X1.1.trans Y1.os), Z1.tape.trans (X1.2.1.trans Y1.tape), Z1.output.trans (X1.2.2.1.trans Y1.output), by have := Y1.size; omega, fun k hk hn => ?_, fun k hk => ?_⟩
        · have n1 : k ≠ g := fun e => hn ⟨.chest d, by rw [HG.out, e]; rfl⟩
          have n2 : k ≠ gk := fun e => hn ⟨.stock d, by rw [HBK.out, e]⟩
          have := Y1.size
          exact (Z1.block k (by omega) (fun e => n1 (Option.some.inj e))).trans ((HFF.out k (by omega) n2).trans (Y1.block k hk))
        · have K := HK.out
          rcases foot_updC hk with h | h | h | h
          · exact Or.inr (Nat.le_trans z4 (K.sizes.2 k h))
          · exact Or.inr (Nat.le_trans z4 (K.stock.2 k h))
          · exact Or.inr (Nat.le_trans z4 (K.out.2 k h))
          · exact Or.inl h
      · go_wp2_with (first
          | (go_at_call 217; (with_reducible refine HSE.out.mono ?_); rintro e w8 ⟨rfl, q, rfl⟩)
          | (with_reducible show wpList _ _ _ (⟨_, .store 3 _ _, _, _, _, _⟩ :: _) _ _
             refine wpList_setcellC rfl 3 _ _ rfl gk j (.int .i64 ((x : Int) + 1)) rfl rfl (by go_simp) ?_
             obtain ⟨wa, hwa⟩ : ∃ y, y = (wr.drewN q).setCell ⟨gk, j, none⟩ (.int .i64 ((x : Int) + 1)) := ⟨_, rfl⟩
             rw [← hwa]
             obtain ⟨hHA, e1, e2, hfa, hx1⟩ := HWA.out q wa hwa
             have HHA := Lib.hid hHA
             have HFF := Lib.hid hfa
             have HXA := Lib.hid hx1
             clear hwa hHA hfa hx1))
        go_roundw
        case rel =>
          refine ⟨i + 1, ms.set j (x + 1), by omega, by go_num, HHA.out, ?_, ⟨by rw [List.length_set]; exact hML.out.1, fun y hy => ?_⟩, fun k h1 h2 => HFF.out k h1 (fun e => h2 (by rw [HBK.out, e])), HXA.out⟩
          · rw [HSTEP.out, if_neg h40]
            exact rfl
          · rcases List.mem_or_eq_of_mem_set hy with hy | rfl
            · exact hML.out.2 y hy
            · omega
        case measure => simp only [intOf]; omega
    · have hlti : ¬ (i : Int) < np := by omega
      obtain rfl : i = np := by omega
      have hb0 : backP c.sizes pk c.stock = some ms := by
        rw [← hBK.out, List.drop_of_length_le (by rw [HNP.out]; exact Nat.le_refl _)]
        rfl
      have hzw := HB7.out.size
      have hgo : ∀ {r : Role} {j : Nat}, blkOf (V r) = some j → j < w.heap.size := fun h => HH.out.lt ⟨_, h⟩
      have bg : blkOf (V (.chest d)) = some g := by rw [HG.out]; rfl
      have CR := hHR.out.ch d _ (lk_set HKC.out)
      have hCo := CR.out
      obtain ⟨g', hg', hBR⟩ := CR.at_
      obtain rfl : g = g' := by rw [HG.out] at hg'; injection hg' with h; injection h with h; injection h
      simp only at hCo hBR
      have HCS := Lib.hid CR.sizes
      have HCK := Lib.hid CR.stock
      have HBR := Lib.hid hBR
      have HCO2 := Lib.hid hCo
      have hNK : ∀ j, w.heap.size ≤ j → blkOf (V (.stock d)) ≠ some j := fun j hj e => by
        have := hgo e
        omega
      have HG1R : Hid (Blk wr g1 214 #[.string o]) := (hFA.out g1 (by have := HG14.out.lt; omega) (hNK _ HE1.out.1)).trans (Blk.callee HG14.out HB47.out)
      have HG2R : Hid (Blk wr g2 37 #[.pointer (some ⟨gh, 0, none⟩)]) := (hFA.out g2 (by have := HG24.out.lt; omega) (hNK _ HE1.out.2.1)).trans (Blk.callee HG24.out HB47.out)
      have HGPR : Hid (Blk wr gp 105 #[.string d, pv]) := (hFA.out gp (by have := HG4.out.lt; omega) (hNK _ HGP.out.1)).trans (Blk.callee HG4.out HB47.out)
      have HG6R : Hid (Blk wr g6 1 #[undoFC g4 g3]) := (hFA.out g6 HG6.out.lt (hNK _ (by have := HG6G.out; omega))).trans HG6.out
      have HDR := Lib.hid (back_drop (o := o) hCo (by
        cases hc : c.out with
        | nil => have := HOO.out; rw [hc] at this; cases this
        | cons a l => simp) (by have := HCO.out.outl; omega) HG1R.out (fun e => by have := hgo e; have := HE1.out.1; omega))
      have c5 : wr.cell? ⟨g, 5, none⟩ = some (V (.outs d)) := hBR.at_ 5 rfl
      clear hBR hCo CR hg' hgo
      go_wp2_with (first
        | (go_at_call 239; (with_reducible refine HDR.out.mono ?_)
           rintro e wd ⟨go, nn, cc, rfl, hgo, hOT, hfd, ho1, ho2, ho3, ho4⟩
           have hog : g ≠ go := HH.out.ne_ bg hgo (by simp)
           have HBD : Hid (Blk wd g 103 (chestV (V (.sizes d)) (V (.stock d)) (V (.outs d)) { c with stock := ms })) := (hfd g hog).trans HBR.out
           have d5 : wd.cell? ⟨g, 5, none⟩ = some (V (.outs d)) := HBD.out.at_ 5 rfl
           have f5 := HBD.out.frozen 5
           have HOT := Lib.hid hOT
           have HFD := Lib.hid hfd
           have HXD : Hid (wd.os = w7.os ∧ wd.tape = w7.tape ∧ wd.output = w7.output ∧ wd.heap.size = w7.heap.size) := ⟨ho1.trans hEX.out.1, ho2.trans hEX.out.2.1, ho3.trans hEX.out.2.2.1, ho4.trans hEX.out.2.2.2⟩
           have HGO := Lib.hid hgo
           clear hOT hfd ho1 ho2 ho3 ho4 hgo)
        | (with_reducible show wpList _ _ _ (⟨_, .store 22 _ _, _, _, _, _⟩ :: _) _ _
           refine wpList_setcellC rfl 22 _ _ rfl g 5 (.slice (some ⟨go, 0, none⟩) nn cc) rfl rfl (by go_simp) ?_
           obtain ⟨wh, hwh⟩ : ∃ y, y = wd.setCell ⟨g, 5, none⟩ (.slice (some ⟨go, 0, none⟩) nn cc) := ⟨_, rfl⟩
           rw [← hwh]
           have HBH : Hid (Blk wh g 103 (chestV (V (.sizes d)) (V (.stock d)) (.slice (some ⟨go, 0, none⟩) nn cc) { c with stock := ms })) := by rw [hwh]; exact HBD.out.set_ 5 _
           have HFH : Hid (∀ j, j ≠ g → wh.heap[j]? = wd.heap[j]?) := fun j hj => by rw [hwh]; exact Below.heap_setCell wd ⟨g, 5, none⟩ _ j hj
           have HXH : Hid (wh.os = w7.os ∧ wh.tape = w7.tape ∧ wh.output = w7.output ∧ wh.heap.size = w7.heap.size) := by rw [hwh]; exact ⟨HXD.out.1, HXD.out.2.1, HXD.out.2.2.1, by simpa using HXD.out.2.2.2⟩
           clear hwh d5 f5 c5))
      have bs : ∀ {r : Role} {j : Nat}, blkOf (V r) = some j → r ≠ .chest d → r ≠ .outs d → wh.heap[j]? = wr.heap[j]? := fun h r1 r2 => (HFH.out _ (HH.out.ne_ h bg r1)).trans (HFD.out _ (HH.out.ne_ h HGO.out r2))
      obtain ⟨V1, hV1⟩ : ∃ V1, updC V d (V (.sizes d)) (V (.stock d)) (.slice (some ⟨go, 0, none⟩) nn cc) = V1 := ⟨_, rfl⟩
      have hself : NewAt wh V (.outs d) (.slice (some ⟨go, 0, none⟩) nn cc) := fun j hj => by
        obtain rfl : go = j := by injection hj
        exact Or.inl HGO.out
      have HD : Hid (HouseAt wh V1 (S.set d { c with stock := ms, out := c.out.filter fun x => decide (x ≠ o) })) := by
        have hog : go ≠ g := HH.out.ne_ HGO.out bg (by simp)
        have h := hHR.out.setChest (w' := wh) (c' := { c with stock := ms, out := c.out.filter fun x => decide (x ≠ o) }) (lk_set HKC.out) (fun r j hr r1 _ _ r4 => bs hr r1 r4)
          (vs := V (.sizes d)) (vk := V (.stock d)) (vo := .slice (some ⟨go, 0, none⟩) nn cc) ⟨⟨g, HG.out, HBH.out⟩, OwnI.same HCS.out fun j hj => bs hj (by simp) (by simp), OwnI.same HCK.out fun j hj => bs hj (by simp) (by simp), OwnS.same HOT.out fun j hj => by
            obtain rfl : go = j := by injection hj
            exact HFH.out go hog⟩
          (.self _ _) (.self _ _) (fun j hj => by
            obtain rfl : go = j := by injection hj
            exact Or.inl HGO.out) (HH.out.apart (by simp)) (fun j h1 h2 => by
            obtain rfl : go = j := by injection h2
            exact HH.out.ne_ h1 HGO.out (by simp) rfl) (fun j h1 h2 => by
            obtain rfl : go = j := by injection h2
            exact HH.out.ne_ h1 HGO.out (by simp) rfl)
        rw [set_set, hV1] at h
        exact h
      have e1 : V1 .house = V .house := by rw [← hV1]; rfl
      have e2 : V1 (.chest d) = V (.chest d) := by rw [← hV1]; rfl
      have e3 : V1 .out = V .out := by rw [← hV1]; rfl
      have E4 : Hid (V1 (.pack o) = pv) := by rw [Hid, ← HPV.out, ← hV1]; rfl
      have FT1 : Hid (∀ j, Foot V1 j → Foot V j) := fun j hj => by
        rw [← hV1] at hj
        rcases foot_updC hj with h | h | h | h
        · exact ⟨_, h⟩
        · exact ⟨_, h⟩
        · obtain rfl : go = j := by injection h
          exact ⟨_, HGO.out⟩
        · exact h
      clear hV1 hself
      obtain ⟨mo', hVo, hMo⟩ := HD.out.mo
      obtain rfl : mo = mo' := by rw [e3, HVO.out] at hVo; injection hVo with h; injection h
      obtain ⟨gh', hVh, hBh⟩ := HD.out.hs
      rw [hVo] at hBh
      rw [e1, HVH.out] at hVh
      obtain rfl : gh = gh' := by injection hVh with h; injection h with h; injection h
      have HVO1 := Lib.hid hVo
      have HMO := Lib.hid hMo
      have HBHH := Lib.hid hBh
      have HE123 : Hid (V1 .house = V .house ∧ V1 (.chest d) = V (.chest d)) := ⟨e1, e2⟩
      have hnf : ∀ j, w.heap.size ≤ j → j < w7.heap.size → wh.heap[j]? = wr.heap[j]? := fun j h1 h2 => (HFH.out j (by omega)).trans (HFD.out j (fun e => by have := HH.out.lt ⟨_, HGO.out⟩; omega))
      have HG1H : Hid (Blk wh g1 214 #[.string o]) := (hnf g1 HE1.out.1 (by have := HG14.out.lt; omega)).trans HG1R.out
      have HG2H : Hid (Blk wh g2 37 #[.pointer (some ⟨gh, 0, none⟩)]) := (hnf g2 HE1.out.2.1 (by have := HG24.out.lt; omega)).trans HG2R.out
      have HGPH : Hid (Blk wh gp 105 #[.string d, pv]) := (hnf gp HGP.out.1 (by have := HGP.out.2; omega)).trans HGPR.out
      have HG6H : Hid (Blk wh g6 1 #[undoFC g4 g3]) := (hnf g6 (by have := HG6G.out; omega) HG6.out.lt).trans HG6R.out
      have HNF := Lib.hid hnf
      have KM : Hid (wh.cell? ⟨g2, 0, none⟩ = some (.pointer (some ⟨gh, 0, none⟩)) ∧ wh.cell? ⟨gh, 2, none⟩ = some (.map (some mo)) ∧ wh.cell? ⟨g1, 0, none⟩ = some (.string o)) := ⟨HG2H.out.at_ 0 rfl, HBHH.out.at_ 2 rfl, HG1H.out.at_ 0 rfl⟩
      clear hVo hMo hBh hVh e1 e2 e3 hnf bs
      refine De.region_tree (fun b w' => bif b then (True) else (w'.cell? ⟨g2, 0, none⟩ = some (.pointer (some ⟨gh, 0, none⟩)) ∧ w'.cell? ⟨gh, 2, none⟩ = some (.map (some mo)) ∧ w'.cell? ⟨g1, 0, none⟩ = some (.string o))) 6 1 (by kernel_rfl) (by kernel_rfl) (by decide) KM.out ?_
      (try simp only [Act.put, De.l0, De.l1, De.l2])
      refine De.MidT.read (o := ?o14) (v := ?v14) 0 (by decide) ?q14 (by kernel_rfl) (by kernel_rfl) ?w14 (by kernel_rfl) ?y14 ?h14
      case q14 => (simp only [De.g0, De.g1, De.g2]; rfl)
      case w14 => kernel_rfl
      case y14 => (intro w' hw'; obtain ⟨x1, x2, x3⟩ := hw'; go_simp; (try with_reducible rfl))
      (try simp only [Act.put, De.l0, De.l1, De.l2])
      refine De.MidT.read (o := ?o15) (v := ?v15) 1 (by decide) ?q15 (by kernel_rfl) (by kernel_rfl) ?w15 (by kernel_rfl) ?y15 ?h15
      case q15 => (simp only [De.g0, De.g1, De.g2]; rfl)
      case w15 => kernel_rfl
      case y15 => (intro w' hw'; obtain ⟨x1, x2, x3⟩ := hw'; go_simp; (try with_reducible rfl))
      (try simp only [Act.put, De.l0, De.l1, De.l2])
      refine De.MidT.read (o := ?o16) (v := ?v16) 2 (by decide) ?q16 (by kernel_rfl) (by kernel_rfl) ?w16 (by kernel_rfl) ?y16 ?h16
      case q16 => (simp only [De.g0, De.g1, De.g2]; rfl)
      case w16 => kernel_rfl
      case y16 => (intro w' hw'; obtain ⟨x1, x2, x3⟩ := hw'; go_simp; (try with_reducible rfl))
      (try simp only [Act.put, De.l0, De.l1, De.l2])
      refine De.MidT.read (o := ?o17) (v := ?v17) 3 (by decide) ?q17 (by kernel_rfl) (by kernel_rfl) ?w17 (by kernel_rfl) ?y17 ?h17
      case q17 => (simp only [De.g0, De.g1, De.g2]; rfl)
      case w17 => kernel_rfl
      case y17 => (intro w' hw'; obtain ⟨x1, x2, x3⟩ := hw'; go_simp; (try with_reducible rfl))
      (try simp only [Act.put, De.l0, De.l1, De.l2])
      refine De.MidT.read (o := ?o18) (v := ?v18) 4 (by decide) ?q18 (by kernel_rfl) (by kernel_rfl) ?w18 (by kernel_rfl) ?y18 ?h18
      case q18 => (simp only [De.g0, De.g1, De.g2]; rfl)
      case w18 => kernel_rfl
      case y18 => (intro w' hw'; obtain ⟨x1, x2, x3⟩ := hw'; go_simp; (try with_reducible rfl))
      (try simp only [Act.put, De.l0, De.l1, De.l2])
      refine De.MidT.read (o := ?o19) (v := ?v19) 5 (by decide) ?q19 (by kernel_rfl) (by kernel_rfl) ?w19 (by kernel_rfl) ?y19 ?h19
      case q19 => (simp only [De.g0, De.g1, De.g2]; rfl)
      case w19 => kernel_rfl
      case y19 => (intro w' hw'; obtain ⟨x1, x2, x3⟩ := hw'; go_simp; (try with_reducible rfl))
      (try simp only [Act.put, De.l0, De.l1, De.l2])
      (try refine De.MidT.tail ?_)
      refine De.Tr.one (i := 6) (o := ?o20) (by kernel_rfl) ?q20 ?g20 ?h20
      case q20 => (simp only [De.g0, De.g1, De.g2]; rfl)
      case g20 => rfl
      refine wp_mapdel 108 9 105 9 _ _ rfl Tryz.underlying108 Tryz.underlying9 mo _ o rfl rfl HMO.out ?_
      intro wm hMm hgrm
      replace hgrm : wh.drew.grownBy wm (some mo) := hgrm
      have stm : ∀ j, j ≠ mo → j < wh.heap.size → wm.heap[j]? = wh.heap[j]? := fun j h1 h2 => hgrm.block j h2 (fun e => h1 (Option.some.inj e))
      have bmo : blkOf (V1 .out) = some mo := by rw [HVO1.out]; rfl
      have bmoV : blkOf (V .out) = some mo := by rw [HVO.out]; rfl
      have hmol := HH.out.lt ⟨_, bmoV⟩
      have HM3 : Hid (HouseAt wm (V1.put (.pack o) (.slice none 0 0)) { S.set d { c with stock := ms, out := c.out.filter fun x => decide (x ≠ o) } with out := delA o S.out }) := HD.out.setOut (o := o) (out' := delA o S.out) (vp := .slice none 0 0) (fun r j hr r1 _ => stm j (HD.out.ne_ hr bmo r1) (HD.out.lt ⟨r, hr⟩))
        (fun k hk => by
          rw [HVO1.out] at hk
          obtain rfl : mo = k := by injection hk with h; injection h
          refine hMm.congr fun x => ?_
          by_cases hx : x = o
          · rw [if_pos hx, if_pos hx, lk_delA HND.out, if_pos rfl]
            rfl
          · rw [if_neg hx, if_neg hx]) (fun x hx => by rw [lk_delA HND.out, if_neg hx]; exact rfl) (fun p hp => by rw [lk_delA HND.out, if_pos rfl] at hp; cases hp) (fun _ => rfl) (fun k hk => by cases hk)
      have HSM := Lib.hid stm
      have HXM : Hid (wm.os = w7.os ∧ wm.tape = w7.tape ∧ wm.output = w7.output ∧ w7.heap.size ≤ wm.heap.size) := ⟨hgrm.os.trans HXH.out.1, hgrm.tape.trans HXH.out.2.1, hgrm.output.trans HXH.out.2.2.1, by rw [← HXH.out.2.2.2]; exact hgrm.size⟩
      clear hgrm stm hMm bmo
      refine ⟨⟨_, rfl⟩, trivial, ?_⟩
      (try refine De.MidT.tail ?_)
      refine De.Tr.done (by kernel_rfl) ?_
      (try simp only [Act.put, De.l0, De.l1, De.l2])
      go_wp2_with (fail)
      rw [← HPO.out, show doP S (.back o) = (0, { S.set d { c with stock := ms, out := c.out.filter fun x => decide (x ≠ o) } with out := delA o S.out }) by simp [doP, HPP.out, HKC.out, HSH.out, hb0]]
      have Y1 := HB7.out
      have FT3 : ∀ j, Foot (V1.put (.pack o) (.slice none 0 0)) j → Foot V j := fun j hj => by
        rcases foot_put hj with h | h
        · cases h
        · exact FT1.out j h
      have szh : wh.heap.size = w7.heap.size := HXH.out.2.2.2
      have OLD : ∀ j, j < w7.heap.size → j ≠ mo → j ≠ g → j ≠ go → blkOf (V (.stock d)) ≠ some j → wm.heap[j]? = w7.heap[j]? := fun j h1 h2 h3 h4 h5 => (HSM.out j h2 (by omega)).trans ((HFH.out j h3).trans ((HFD.out j h4).trans (hFA.out j h1 h5)))
      have FRM : Frm (Foot V) w (Foot (V1.put (.pack o) (.slice none 0 0))) wm := ⟨HXM.out.1.trans Y1.os, HXM.out.2.1.trans Y1.tape, HXM.out.2.2.1.trans Y1.output, Nat.le_trans Y1.size HXM.out.2.2.2, fun j hj hn => (OLD j (by omega) (fun e => hn ⟨.out, by rw [bmoV, e]⟩) (fun e => hn ⟨.chest d, by rw [bg, e]⟩) (fun e => hn ⟨.outs d, by rw [HGO.out, e]⟩) (fun e => hn ⟨_, e⟩)).trans (Y1.block j hj), fun j hj => Or.inl (FT3 j hj)⟩
      refine Or.inr ⟨rfl, _, _, V1.put (.pack o) (.slice none 0 0), rfl, HM3.out, HE123.out.1, FRM, enters_of Tryz.func241 (by kernel_rfl) rfl, fun w'' hb'' => ?_⟩
      have z9 := hb''.size
      have zm := HXM.out.2.2.2
      have NEWB : ∀ j, w.heap.size ≤ j → j < w7.heap.size → w''.heap[j]? = w7.heap[j]? := fun j h1 h2 => (hb''.block j (by omega) (Or.inl h1)).trans (OLD j h2 (by omega) (by omega) (fun e => by have := HH.out.lt ⟨_, HGO.out⟩; omega) (hNK j h1))
      have NFT : ∀ j, w.heap.size ≤ j → ¬ Foot (V1.put (.pack o) (.slice none 0 0)) j := fun j h1 hf => by
        have := HH.out.lt (FT3 j hf)
        omega
      have K := HK.out
      have hs1 : ∀ j, blkOf ws = some j → w4.heap.size ≤ j ∧ j < w5.heap.size := fun j hj => ⟨K.sizes.2 j hj, ownI_lt K.sizes.1 hj⟩
      have hs2 : ∀ j, blkOf wk = some j → w4.heap.size ≤ j ∧ j < w5.heap.size := fun j hj => ⟨K.stock.2 j hj, ownI_lt K.stock.1 hj⟩
      have hs3 : ∀ j, blkOf wo = some j → w4.heap.size ≤ j ∧ j < w5.heap.size := fun j hj => ⟨K.out.2 j hj, ownS_lt K.out.1 hj⟩
      have N5 : ∀ j, w4.heap.size ≤ j → j < w5.heap.size → w''.heap[j]? = w5.heap[j]? := fun j h1 h2 => (NEWB j (by omega) (by omega)).trans (HB57.out.block j h2)
      have NB : ∀ j, w.heap.size ≤ j → j < w7.heap.size → w''.heap[j]? = wh.heap[j]? := fun j h1 h2 => (hb''.block j (by omega) (Or.inl h1)).trans (HSM.out j (by omega) (by omega))
      have hpw : OwnN w (V (.pack o)) pk := HH.out.pk o ⟨d, pk⟩ HPP.out
      rw [HPV.out] at hpw
      have pb : ∀ j, blkOf pv = some j → blkOf (V (.pack o)) = some j := fun j hj => by rw [HPV.out]; exact hj
      have pfar : ∀ j, blkOf pv = some j → j < w.heap.size := fun j hj => ownI_lt hpw hj
      have hpw'' : OwnN w'' pv pk := OwnI.same (OwnI.callee hpw Y1) fun j hj => by
        have h1 := pfar j hj
        exact (hb''.block j (by omega) (Or.inr ⟨_, pb j hj⟩)).trans (OLD j (by omega) (HH.out.ne_ (pb j hj) bmoV (by simp)) (HH.out.ne_ (pb j hj) bg (by simp)) (HH.out.ne_ (pb j hj) HGO.out (by simp)) (fun e => HH.out.ne_ (pb j hj) e (by simp) rfl))
      have pnf : ∀ j, blkOf pv = some j → ¬ Foot (V1.put (.pack o) (.slice none 0 0)) j := fun j hj hf => by
        obtain ⟨q, hq⟩ := hf
        by_cases e : q = .pack o
        · subst e
          rw [Vals.put_self] at hq
          cases hq
        · rw [Vals.put_ne _ _ e] at hq
          exact e (HD.out.inj q (.pack o) j hq (by rw [E4.out]; exact hj))
      have apw : ∀ {v : Value}, (∀ j, blkOf v = some j → w4.heap.size ≤ j ∧ j < w5.heap.size) → Apart pv v := fun h j h1 h2 => by
        have := pfar j h1
        have := h j h2
        omega
      refine (return_back (p := ⟨d, pk⟩) (out' := S.out) (HM3.out.later hb'' FRM.foot) (lk_set HKC.out) (show V1 (.chest d) = _ from HE123.out.2.trans HG.out) ((N5 g3 K.n1 K.b1.lt).trans K.b1) ((N5 g4 K.n2 K.b2.lt).trans K.b2)
        (OwnI.same K.sizes.1 fun j hj => N5 j (hs1 j hj).1 (hs1 j hj).2) (OwnI.same K.stock.1 fun j hj => N5 j (hs2 j hj).1 (hs2 j hj).2) (OwnS.same K.out.1 fun j hj => N5 j (hs3 j hj).1 (hs3 j hj).2)
        (fun j hj => NFT j (by have := hs1 j hj; omega)) (fun j hj => NFT j (by have := hs2 j hj; omega)) (fun j hj => NFT j (by have := hs3 j hj; omega)) K.d1 K.d2 K.d3
        ((NB g6 (by have := HG6G.out; omega) HG6.out.lt).trans HG6H.out) ((NB g2 HE1.out.2.1 (by have := HG24.out.lt; omega)).trans HG2H.out) ((NB g1 HE1.out.1 (by have := HG14.out.lt; omega)).trans HG1H.out) ((NB gp HGP.out.1 (by have := HGP.out.2; omega)).trans HGPH.out) (show V1 .house = _ from HE123.out.1.trans HVH.out)
        (NFT g1 HE1.out.1) (NFT g2 HE1.out.2.1) (NFT gp HGP.out.1) hpw'' pnf (apw hs1) (apw hs2) (apw hs3) (fun x hx => by
          show lk x S.out = lk x (delA o S.out)
          rw [lk_delA HND.out, if_neg hx]) HPP.out).mono ?_
      rintro e w3 ⟨rfl, hH3, ⟨a1, a2, a3, a4⟩, hfar⟩
      refine ⟨rfl, (updC (V1.put (.pack o) (.slice none 0 0)) d ws wk wo).put (.pack o) pv, ?_, (show V1 .house = _ from HE123.out.1), ?_⟩
      rotate_left
      · refine ⟨a1, a2, a3, a4, fun j hj hn => hfar j (by have := FRM.size; omega) (fun hf => hn (FT3 j hf)), fun i hi => ?_⟩
        rcases foot_put hi with h | h
        · exact Or.inl ⟨_, pb i h⟩
        · rcases foot_updC h with h | h | h | h
          · have := hs1 i h; exact Or.inr (by omega)
          · have := hs2 i h; exact Or.inr (by omega)
          · have := hs3 i h; exact Or.inr (by omega)
          · exact Or.inl (FT3 i h)
      · have e : House.mk ((S.set d { c with stock := ms, out := c.out.filter fun x => decide (x ≠ o) }).set d c).chests S.out S.used = S := by rw [set_back HKC.out]
        rw [← e]
        exact hH3
end
end Dr
end Go.Proofs.YtbgakdpbglpfaaaGreatDoor
