/- The texts DrK to DrE, joined by joinlist.py: their statements say what each proves. -/
import Derived.Test.YtbgakdpbglpfaaaGreatDoorJdm
import Derived.Test.YtbgakdpbglpfaaaGreatDoorJde
import Derived.Deep.RegionHeld3
import Derived.Deep.QuietTactic
import Derived.BigQuiet
import Derived.StillTailTactics
import Derived.IntWalk
import Derived.Shelf.Abstract
import Derived.Test.YtbgakdpbglpfaaaGreatDoorShelf
-- the text DrK
namespace Go.Proofs.YtbgakdpbglpfaaaGreatDoor
open Go.RowKit
/-- a variable of any type that a value is laid into -/
theorem wpList_box_cells {P : Program} {w : World} {ops : Array Oper} {rest : List Oper} {o : Oper} {a : Act} {Q : Exit → Act → World → Prop} (hgd : o.guard = none) (ty : TypeId) (x : Operand) (ho : o.op = .box ty x) (v : Value) (z : Array Value)
    (hx : a.eval x = v) (hz : v.cells = z)
    (h : ∀ (w' : World) (g : Nat), Blk w' g ty z → w.grownBy w' none → w.heap.size ≤ g → wpList P ops Q rest (a.put o.dst (.pointer (some ⟨g, 0, none⟩))) w') : wpList P ops Q (o :: rest) a w :=
  wpList_plain hgd fun K hK => by
    subst hz
    have hh := h (w.alloc (.cells v.cells ty)) w.heap.size (Blk.new _ _ _) (World.grownBy_alloc w _ none) (Nat.le_refl _)
    have hk := hK _ _ hh
    unfold Oper.wp execOp
    simp only [ho, hx]
    simpa [go_sem] using hk
theorem below_grown {w w' : World} (h : w.grownBy w' none) : Below w.heap.size w w' := (Below.refl _ _).grown h (Nat.le_refl _) (by simp)
/-- one cell of a block, as a fact of any later world -/
theorem Blk.at_ {w : World} {g : Nat} {t : TypeId} {cs : Array Value} (h : Blk w g t cs) (i : Nat) {v : Value} (hv : cs[i]? = some v) : w.cell? ⟨g, i, none⟩ = some v := (h.cell i).trans hv
section
variable {P : Program} {w : World} {o : Oper} {a : Act} {K : Act → World → Prop} {Q : Exit → Act → World → Prop}
/-- an operation of a chain: a slice literal of one element -/
theorem wp_lit1 (ty : TypeId) (et : TypeId) (x : Operand) (v : Value) (ho : o.op = .buildSlice ty 1 #[(0, x)]) (hx : a.eval x = v)
    (hr : ∀ w : World, (Instr.buildSlice ty 1 #[(0, v)]).run P w = .ok (.slice (some ⟨w.heap.size, 0, none⟩) 1 1) (w.alloc (.cells #[v] et)))
    (h : ∀ (w' : World) (g : Nat), Blk w' g et #[v] → w.grownBy w' none → w.heap.size ≤ g → K (a.put o.dst (.slice (some ⟨g, 0, none⟩) 1 1)) w') : o.wp P a w K Q := by
  have hh := h (w.alloc (.cells #[v] et)) w.heap.size (Blk.new _ _ _) (World.grownBy_alloc w _ none) (Nat.le_refl _)
  unfold Oper.wp execOp
  simp only [ho, List.map_toArray, List.map_cons, List.map_nil, hx, Sem.run_bind, hr w, Result.andThen_ok, Sem.run_pure, Oper.upon_value]
  exact hh
theorem wp_box (ty : TypeId) (x : Operand) (v : Value) (z : Array Value) (ho : o.op = .box ty x) (hx : a.eval x = v) (hz : v.cells = z)
    (h : ∀ (w' : World) (g : Nat), Blk w' g ty z → w.grownBy w' none → w.heap.size ≤ g → K (a.put o.dst (.pointer (some ⟨g, 0, none⟩))) w') : o.wp P a w K Q := by
  subst hz
  have hh := h (w.alloc (.cells v.cells ty)) w.heap.size (Blk.new _ _ _) (World.grownBy_alloc w _ none) (Nat.le_refl _)
  unfold Oper.wp execOp
  simp only [ho, hx]
  simpa [go_sem] using hh
theorem wp_mapput (t k e : TypeId) (m x v : Operand) (ho : o.op = .mapUpdate t m x v) (ht : P.underlying t = some (.map k e)) (hk : P.underlying k = some .string) (b : Nat) (f : ByteArray → Option Value) (s : ByteArray) (u : Value)
    (hm : a.eval m = .map (some b)) (hx : a.eval x = .string s) (hv : a.eval v = u) (hM : MapS w b f)
    (h : ∀ w', MapS w' b (fun q => if q = s then some u else f q) → w.grownBy w' (some b) → K (a.put o.dst undef) w') : o.wp P a w K Q := by
  obtain ⟨w', hr, h1, h2⟩ := hM.put ht hk s u
  unfold Oper.wp execOp
  simp only [ho, hm, hx, hv, Sem.run_bind, hr, Result.andThen_ok, Sem.run_pure, Oper.upon_skip]
  exact h w' h1 h2
theorem wp_mapdel (t k e kt : TypeId) (m x : Operand) (ho : o.op = .call { callee := .builtin .delete, args := #[m, x], argTypes := #[t, kt] }) (ht : P.underlying t = some (.map k e)) (hk : P.underlying k = some .string) (b : Nat) (f : ByteArray → Option Value) (s : ByteArray)
    (hm : a.eval m = .map (some b)) (hx : a.eval x = .string s) (hM : MapS w b f)
    (h : ∀ w', MapS w' b (fun q => if q = s then none else f q) → w.grownBy w' (some b) → K (a.put o.dst (.tuple #[])) w') : o.wp P a w K Q := by
  obtain ⟨w', hr, h1, h2⟩ := hM.del (ty := o.type) ht hk s kt
  unfold Oper.wp execOp
  simp only [ho, resolve, invoke, builtin, Sem.run_bind, Sem.run_pure, Result.andThen_ok, List.map_toArray, List.map_cons, List.map_nil, hm, hx, hr, Oper.upon_value]
  exact h w' h1 h2
/-- a store of one cell into a block that is known whole -/
theorem wp_setcell (ty : TypeId) (x y : Operand) (ho : o.op = .store ty x y) (g i : Nat) (v : Value) (hx : a.eval x = .pointer (some ⟨g, i, none⟩)) (hy : a.eval y = v)
    (hr : (Instr.storeAt ty (.pointer (some ⟨g, i, none⟩)) v).run P w = .ok () (w.setCell ⟨g, i, none⟩ v))
    (h : K (a.put o.dst undef) (w.setCell ⟨g, i, none⟩ v)) : o.wp P a w K Q := by
  unfold Oper.wp execOp
  simp only [ho, hx, hy, Sem.run_bind, Sem.run_pure, Result.andThen_ok, hr, Oper.upon_skip]
  exact h
end
/-- clear(m) -/
theorem wpList_mapclear {P : Program} {w : World} {ops : Array Oper} {rest : List Oper} {o : Oper} {a : Act} {Q : Exit → Act → World → Prop} (hgd : o.guard = none) (t k e : TypeId) (m : Operand) (ho : o.op = .call { callee := .builtin .clear, args := #[m], argTypes := #[t] }) (ht : P.underlying t = some (.map k e)) (b : Nat) (f : ByteArray → Option Value)
    (hm : a.eval m = .map (some b)) (hM : MapS w b f) (h : ∀ w', MapS w' b (fun _ => none) → w.grownBy w' (some b) → wpList P ops Q rest (a.put o.dst (.tuple #[])) w') : wpList P ops Q (o :: rest) a w :=
  wpList_plain hgd fun _ hK => by
    obtain ⟨w', hr, h1, h2⟩ := hM.clear (ty := o.type) ht
    unfold Oper.wp execOp
    simp only [ho, resolve, invoke, builtin, Sem.run_bind, Sem.run_pure, Result.andThen_ok, List.map_toArray, List.map_cons, List.map_nil, hm, hr, Oper.upon_value]
    exact hK _ _ (h w' h1 h2)
end Go.Proofs.YtbgakdpbglpfaaaGreatDoor
-- the text DrB
namespace Go.Proofs.YtbgakdpbglpfaaaGreatDoor
open Go.RowKit
namespace Dr
set_option linter.unusedSimpArgs false
/-- w'' is a later world than w', the house's blocks and those that were new in w' untouched; what lay in w beside the house may have been turned -/
structure Later (V : Vals) (w w' w'' : World) : Prop where
  os : w''.os = w'.os
  tape : w''.tape = w'.tape
  output : w''.output = w'.output
  size : w'.heap.size ≤ w''.heap.size
  block : ∀ i, i < w'.heap.size → (w.heap.size ≤ i ∨ Foot V i) → w''.heap[i]? = w'.heap[i]?
theorem Later.below {V : Vals} {w w' w'' : World} (hb : Below w'.heap.size w' w'') : Later V w w' w'' := ⟨hb.os, hb.tape, hb.output, hb.size, fun i hi _ => hb.block i hi⟩
theorem HouseAt.later {V V' : Vals} {S : House} {w w' w'' : World} (H : HouseAt w' V' S) (L : Later V w w' w'') (hf : ∀ i, Foot V' i → Foot V i ∨ w.heap.size ≤ i) : HouseAt w'' V' S :=
  H.same fun g hg => L.block g (H.lt hg) ((hf g hg).symm)
/-- what taking back keeps -/
structure Back (V V3 : Vals) (w w'' w3 : World) : Prop where
  os : w3.os = w''.os
  tape : w3.tape = w''.tape
  output : w3.output = w''.output
  size : w''.heap.size ≤ w3.heap.size
  block : ∀ i, i < w.heap.size → ¬ Foot V i → w3.heap[i]? = w''.heap[i]?
  foot : ∀ i, Foot V3 i → Foot V i ∨ w.heap.size ≤ i
theorem Back.of_frm {V V' V3 : Vals} {w w' w'' w3 : World} (hf : Frm (Foot V) w (Foot V') w') (hz : w'.heap.size ≤ w''.heap.size) (h : Frm (Foot V') w'' (Foot V3) w3) : Back V V3 w w'' w3 :=
  ⟨h.os, h.tape, h.output, h.size, fun i hi hn => h.block i (by have := hf.size; omega) (fun hF => by
    rcases hf.foot i hF with h1 | h1
    · exact hn h1
    · omega), fun i hi => by
    rcases h.foot i hi with h1 | h1
    · exact hf.foot i h1
    · exact Or.inr (by have := hf.size; omega)⟩
/-- taking a deed back, at once or later, leads to the house S -/
def UndoOk (f : FuncId) (cap : Array Value) (V : Vals) (S : House) (w w' : World) : Prop :=
  (∀ args w, (callFunc f args).run Tryz.prog w = .ok (.enter f args) w) ∧ ∀ w'', Later V w w' w'' → Calls Tryz.prog f cap w'' fun e w3 => e = .returned (.tuple #[]) ∧ ∃ V3, HouseAt w3 V3 S ∧ V3 .house = V .house ∧ Back V V3 w w'' w3
/-- what a deed returns, and the house behind it -/
def DoPost (V : Vals) (S : House) (w : World) (r : Int × House) (e : Ending) (w' : World) : Prop :=
  (r.1 ≠ 0 ∧ e = .returned (.tuple #[.nilFunc, .int .i64 r.1]) ∧ ∃ V', HouseAt w' V' S ∧ V' .house = V .house ∧ Frm (Foot V) w (Foot V') w') ∨
  (r.1 = 0 ∧ ∃ f cap V', e = .returned (.tuple #[.func (.func f) #[] cap, .int .i64 0]) ∧ HouseAt w' V' r.2 ∧ V' .house = V .house ∧ Frm (Foot V) w (Foot V') w' ∧ UndoOk f cap V S w w')
theorem DoPost.no {V : Vals} {S : House} {w w' : World} {r : Int × House} {e : Ending} (H : HouseAt w V S) (hr : r.1 ≠ 0) (he : e = .returned (.tuple #[.nilFunc, .int .i64 r.1])) (hb : Below w.heap.size w w') : DoPost V S w r e w' :=
  Or.inl ⟨hr, he, V, H.callee hb, rfl, Frm.below hb⟩
section
variable {w : World} {V : Vals} {S : House}
theorem names_at (H : HouseAt w V S) : ∃ A c, V .names = .slice A S.chests.length c := by
  obtain ⟨A, c, h1, _⟩ := OwnS.reads H.nm
  exact ⟨A, c, by rw [h1]; simp⟩
set_option maxRecDepth 100000 in
theorem founding_no (H : HouseAt w V S) (d : ByteArray) (h : (doP S (.found d)).1 ≠ 0) :
    Calls Tryz.prog 213 #[.agg #[.string d], V .house] w (DoPost V S w (doP S (.found d))) := by
  obtain ⟨gh, hV, hB⟩ := H.hs
  obtain ⟨gc, hVc, _⟩ := H.mc
  obtain ⟨A, c, hN⟩ := names_at H
  have hP : ∀ e w', e = .returned (.tuple #[.nilFunc, .int .i64 (doP S (.found d)).1]) → Below w.heap.size w w' → DoPost V S w (doP S (.found d)) e w' := fun e w' he hb => .no H h he hb
  obtain ⟨R, hR⟩ : ∃ R, (doP S (.found d)).1 = R := ⟨_, rfl⟩
  rw [hR] at hP h
  have hlk := fun (w' : World) (hb : Below w.heap.size w w') => H.lookC (fun g hg => hb.block g (H.lt hg)) hVc d
  have HL := Lib.hid hlk
  have HP := Lib.hid hP
  have HH := Lib.hid h
  generalize hPo : DoPost V S w (doP S (.found d)) = Po at HP ⊢
  clear hPo hP hlk
  have c0 : w.cell? ⟨gh, 0, none⟩ = some (.slice A S.chests.length c) := by rw [← hN]; exact hB.cell 0
  have c1 : w.cell? ⟨gh, 1, none⟩ = some (.map (some gc)) := by rw [← hVc]; exact hB.cell 1
  have hgl := hB.lt
  rw [hV]
  obtain ⟨n, hn'⟩ : ∃ n, S.chests.length = n := ⟨_, rfl⟩
  rw [hn'] at c0
  cases hk : lk d S.chests with
  | some ch =>
    have HR : Hid (R = 6) := by rw [Hid, ← hR, doP, hk]; rfl
    obtain ⟨⟨g, hg, _⟩, _⟩ := H.ch d ch hk
    have HL2 : Hid (∀ w', Below w.heap.size w w' → (Instr.lookup 107 (.map (some gc)) (.string d) false).run Tryz.prog w' = .ok (.pointer (some ⟨g, 0, none⟩)) w') := by
      intro w' hb
      have := HL.out w' hb
      rw [hk, hg] at this
      exact this
    clear HL hk hR hn' hV hVc hN hg H h hB
    go_enter Tryz.func213, Tryz.ntmps213
    go_wp2_with (first
      | (with_reducible show wpList _ _ _ (⟨_, .box 206 _, _, _, _, _⟩ :: _) _ _
         refine wpList_box_cells rfl 206 _ rfl (.agg #[.string d]) #[.string d] rfl rfl ?_
         intro w1 g1 hG1 hgr1 hge1)
      | (with_reducible show wpList _ _ _ (⟨_, .box 37 _, _, _, _, _⟩ :: _) _ _
         refine wpList_box_cells rfl 37 _ rfl (.pointer (some ⟨gh, 0, none⟩)) #[.pointer (some ⟨gh, 0, none⟩)] rfl rfl ?_
         intro w2 g2 hG2 hgr2 hge2
         have hb1 := below_grown hgr1
         have hb2 := hb1.trans ((below_grown hgr2).mono hb1.size)
         have d1 : w2.cell? ⟨g1, 0, none⟩ = some (.string d) := (hG1.none_ hgr2).at_ 0 rfl
         have d2 : w2.cell? ⟨g2, 0, none⟩ = some (.pointer (some ⟨gh, 0, none⟩)) := hG2.at_ 0 rfl
         have d3 : w2.cell? ⟨gh, 1, none⟩ = some (.map (some gc)) := (hb2.cell (p := ⟨gh, 1, none⟩) hgl).trans c1
         have d4 := fun q => HL2.out (w2.drewN q) (below_drewN hb2 q)))
    clear c0 c1
    have HB := Lib.hid hb2
    clear hb1 hb2 hgr1 hgr2
    go_quiet (fail)
    go_wp2_with (fail)
    exact HP.out _ _ (by rw [HR.out]; rfl) (below_drewN HB.out _)
  | none =>
    have hn4 : n = 4 := by
      by_cases e : n = 4
      · exact e
      · exfalso
        apply HH.out
        rw [← hR, doP, hk, hn', if_neg e]; rfl
    have HR : Hid (R = 3) := by rw [Hid, ← hR, doP, hk, hn', if_pos hn4]; rfl
    subst hn4
    have HL2 : Hid (∀ w', Below w.heap.size w w' → (Instr.lookup 107 (.map (some gc)) (.string d) false).run Tryz.prog w' = .ok (.pointer none) w') := by
      intro w' hb
      have := HL.out w' hb
      rw [hk] at this
      exact this
    clear HL hk hR hn' hV hVc hN H h hB
    go_enter Tryz.func213, Tryz.ntmps213
    go_wp2_with (first
      | (with_reducible show wpList _ _ _ (⟨_, .box 206 _, _, _, _, _⟩ :: _) _ _
         refine wpList_box_cells rfl 206 _ rfl (.agg #[.string d]) #[.string d] rfl rfl ?_
         intro w1 g1 hG1 hgr1 hge1)
      | (with_reducible show wpList _ _ _ (⟨_, .box 37 _, _, _, _, _⟩ :: _) _ _
         refine wpList_box_cells rfl 37 _ rfl (.pointer (some ⟨gh, 0, none⟩)) #[.pointer (some ⟨gh, 0, none⟩)] rfl rfl ?_
         intro w2 g2 hG2 hgr2 hge2
         have hb1 := below_grown hgr1
         have hb2 := hb1.trans ((below_grown hgr2).mono hb1.size)
         have d1 : w2.cell? ⟨g1, 0, none⟩ = some (.string d) := (hG1.none_ hgr2).at_ 0 rfl
         have d2 : w2.cell? ⟨g2, 0, none⟩ = some (.pointer (some ⟨gh, 0, none⟩)) := hG2.at_ 0 rfl
         have d0 := (hb2.cell (p := ⟨gh, 0, none⟩) hgl).trans c0
         have d3 : w2.cell? ⟨gh, 1, none⟩ = some (.map (some gc)) := (hb2.cell (p := ⟨gh, 1, none⟩) hgl).trans c1
         have d4 := fun q => HL2.out (w2.drewN q) (below_drewN hb2 q)))
    clear c0 c1
    have HB := Lib.hid hb2
    clear hb1 hb2 hgr1 hgr2
    go_quiet (fail)
    go_wp2_with (fail)
    exact HP.out _ _ (by rw [HR.out]; rfl) (below_drewN HB.out _)
theorem lit_str (s : ByteArray) (w : World) : (Instr.buildSlice 22 1 #[(0, .string s)]).run Tryz.prog w = .ok (.slice (some ⟨w.heap.size, 0, none⟩) 1 1) (w.alloc (.cells #[.string s] 9)) := by
  go_simp
theorem zero_chest (w : World) : (zeroValue 103).run Tryz.prog w = .ok (.agg #[.slice none 0 0, .slice none 0 0, .bool false, .int .i64 0, .int .i64 0, .slice none 0 0]) w := Tryz.zeroValue103 w
set_option maxRecDepth 100000 in
/-- a drawer that was told of goes again -/
theorem founding_undo {d : ByteArray} {g1 g2 gh : Nat} (H : HouseAt w V { S with chests := S.chests ++ [(d, newChest)] }) (hV : V .house = .pointer (some ⟨gh, 0, none⟩)) (hG2 : Blk w g2 37 #[.pointer (some ⟨gh, 0, none⟩)]) (hG1 : Blk w g1 206 #[.string d])
    (hd : lk d S.chests = none) (hn : S.chests.length ≤ 4) :
    Calls Tryz.prog 214 #[.pointer (some ⟨g2, 0, none⟩), .pointer (some ⟨g1, 0, none⟩)] w fun e w3 => e = .returned (.tuple #[]) ∧ ∃ V3, HouseAt w3 V3 S ∧ V3 .house = V .house ∧ Frm (Foot V) w (Foot V3) w3 := by
  obtain ⟨gh', hV', hB⟩ := H.hs
  obtain rfl : gh = gh' := by rw [hV] at hV'; injection hV' with h; injection h with h; injection h
  obtain ⟨gc, hVc, hM⟩ := H.mc
  obtain ⟨A, c, hN, hc, hcm, _, hA⟩ := ownS_form H.nm
  obtain ⟨gn, rfl⟩ := hA (by simp)
  have hnl : ((S.chests ++ [(d, newChest)]).map (·.1)).length = S.chests.length + 1 := by simp
  rw [hnl] at hN hc
  obtain ⟨n, hn'⟩ : ∃ n, S.chests.length = n := ⟨_, rfl⟩
  rw [hn'] at hN hc hn
  unfold maxLen at hcm
  have c0 : w.cell? ⟨gh, 0, none⟩ = some (.slice (some ⟨gn, 0, none⟩) (n + 1) c) := by rw [← hN]; exact hB.cell 0
  have f0 := hB.frozen 0
  have c1 : w.cell? ⟨gh, 1, none⟩ = some (.map (some gc)) := by rw [← hVc]; exact hB.cell 1
  have e1 : w.cell? ⟨g1, 0, none⟩ = some (.string d) := hG1.at_ 0 rfl
  have e2 : w.cell? ⟨g2, 0, none⟩ = some (.pointer (some ⟨gh, 0, none⟩)) := hG2.at_ 0 rfl
  have HB := Lib.hid hB
  have HE : Hid (w.cell? ⟨g2, 0, none⟩ = some (.pointer (some ⟨gh, 0, none⟩)) ∧ w.cell? ⟨gh, 0, none⟩ = some (.slice (some ⟨gn, 0, none⟩) (n + 1) c)) := ⟨e2, c0⟩
  go_enter Tryz.func214, Tryz.ntmps214
  go_wp2_with (fail)
  have hw0 : IntKind.i64.wrap (n : Int) = n := IntWalk.i64_in _ (by omega)
  have hw1 : (0 : Int) ≤ n := by omega
  have hw2 : (n : Int) ≤ c := by omega
  refine De.region_chain (fun w' => w'.cell? ⟨g2, 0, none⟩ = some (.pointer (some ⟨gh, 0, none⟩)) ∧ w'.cell? ⟨gh, 0, none⟩ = some (.slice (some ⟨gn, 0, none⟩) (n + 1) c)) (fun w' => w' = w.drew) 14 14 [] rfl (by kernel_rfl) (by kernel_rfl) (fun w' hw' => ?ji1) rfl ?rd1
  case ji1 => (subst hw'; exact HE.out)
  refine De.Rd.read (o := ?o2) (v := ?v2) 0 (by decide) ?q2 (by kernel_rfl) (by kernel_rfl) (by kernel_rfl) ?w2 ?y2 ?h2
  case q2 => (simp only [De.g0, De.g1, De.g2]; rfl)
  case w2 => kernel_rfl
  case y2 => (intro w' hw'; obtain ⟨x1, x2⟩ := hw'; go_simp; (try with_reducible rfl))
  (try simp only [Act.put, De.l0, De.l1, De.l2])
  refine De.Rd.read (o := ?o3) (v := ?v3) 1 (by decide) ?q3 (by kernel_rfl) (by kernel_rfl) (by kernel_rfl) ?w3 ?y3 ?h3
  case q3 => (simp only [De.g0, De.g1, De.g2]; rfl)
  case w3 => kernel_rfl
  case y3 => (intro w' hw'; obtain ⟨x1, x2⟩ := hw'; go_simp; (try with_reducible rfl))
  (try simp only [Act.put, De.l0, De.l1, De.l2])
  refine De.Rd.read (o := ?o4) (v := ?v4) 2 (by decide) ?q4 (by kernel_rfl) (by kernel_rfl) (by kernel_rfl) ?w4 ?y4 ?h4
  case q4 => (simp only [De.g0, De.g1, De.g2]; rfl)
  case w4 => kernel_rfl
  case y4 => (intro w' hw'; obtain ⟨x1, x2⟩ := hw'; go_simp; (try with_reducible rfl))
  (try simp only [Act.put, De.l0, De.l1, De.l2])
  refine De.Rd.read (o := ?o5) (v := ?v5) 3 (by decide) ?q5 (by kernel_rfl) (by kernel_rfl) (by kernel_rfl) ?w5 ?y5 ?h5
  case q5 => (simp only [De.g0, De.g1, De.g2]; rfl)
  case w5 => kernel_rfl
  case y5 => (intro w' hw'; obtain ⟨x1, x2⟩ := hw'; go_simp; (try with_reducible rfl))
  (try simp only [Act.put, De.l0, De.l1, De.l2])
  refine De.Rd.read (o := ?o6) (v := ?v6) 4 (by decide) ?q6 (by kernel_rfl) (by kernel_rfl) (by kernel_rfl) ?w6 ?y6 ?h6
  case q6 => (simp only [De.g0, De.g1, De.g2]; rfl)
  case w6 => kernel_rfl
  case y6 => (intro w' hw'; obtain ⟨x1, x2⟩ := hw'; go_simp; (try with_reducible rfl))
  (try simp only [Act.put, De.l0, De.l1, De.l2])
  refine De.Rd.read (o := ?o7) (v := ?v7) 5 (by decide) ?q7 (by kernel_rfl) (by kernel_rfl) (by kernel_rfl) ?w7 ?y7 ?h7
  case q7 => (simp only [De.g0, De.g1, De.g2]; rfl)
  case w7 => kernel_rfl
  case y7 => (intro w' hw'; obtain ⟨x1, x2⟩ := hw'; go_simp; (try with_reducible rfl))
  (try simp only [Act.put, De.l0, De.l1, De.l2])
  refine De.Rd.read (o := ?o8) (v := ?v8) 6 (by decide) ?q8 (by kernel_rfl) (by kernel_rfl) (by kernel_rfl) ?w8 ?y8 ?h8
  case q8 => (simp only [De.g0, De.g1, De.g2]; rfl)
  case w8 => kernel_rfl
  case y8 => (intro w' hw'; obtain ⟨x1, x2⟩ := hw'; go_simp; (try with_reducible rfl))
  (try simp only [Act.put, De.l0, De.l1, De.l2])
  refine De.Rd.read (o := ?o9) (v := ?v9) 7 (by decide) ?q9 (by kernel_rfl) (by kernel_rfl) (by kernel_rfl) ?w9 ?y9 ?h9
  case q9 => (simp only [De.g0, De.g1, De.g2]; rfl)
  case w9 => kernel_rfl
  case y9 => (intro w' hw'; obtain ⟨x1, x2⟩ := hw'; go_simp; (try with_reducible rfl))
  (try simp only [Act.put, De.l0, De.l1, De.l2])
  refine De.Rd.read (o := ?o10) (v := ?v10) 8 (by decide) ?q10 (by kernel_rfl) (by kernel_rfl) (by kernel_rfl) ?w10 ?y10 ?h10
  case q10 => (simp only [De.g0, De.g1, De.g2]; rfl)
  case w10 => kernel_rfl
  case y10 => (intro w' hw'; obtain ⟨x1, x2⟩ := hw'; go_simp; (try with_reducible rfl))
  (try simp only [Act.put, De.l0, De.l1, De.l2])
  refine De.Rd.read (o := ?o11) (v := ?v11) 9 (by decide) ?q11 (by kernel_rfl) (by kernel_rfl) (by kernel_rfl) ?w11 ?y11 ?h11
  case q11 => (simp only [De.g0, De.g1, De.g2]; rfl)
  case w11 => kernel_rfl
  case y11 => (intro w' hw'; obtain ⟨x1, x2⟩ := hw'; go_simp; (try with_reducible rfl))
  (try simp only [Act.put, De.l0, De.l1, De.l2])
  refine De.Rd.read (o := ?o12) (v := ?v12) 10 (by decide) ?q12 (by kernel_rfl) (by kernel_rfl) (by kernel_rfl) ?w12 ?y12 ?h12
  case q12 => (simp only [De.g0, De.g1, De.g2]; rfl)
  case w12 => kernel_rfl
  case y12 => (intro w' hw'; obtain ⟨x1, x2⟩ := hw'; go_simp; (try with_reducible rfl))
  (try simp only [Act.put, De.l0, De.l1, De.l2])
  refine De.Rd.read (o := ?o13) (v := ?v13) 11 (by decide) ?q13 (by kernel_rfl) (by kernel_rfl) (by kernel_rfl) ?w13 ?y13 ?h13
  case q13 => (simp only [De.g0, De.g1, De.g2]; rfl)
  case w13 => kernel_rfl
  case y13 => (intro w' hw'; obtain ⟨x1, x2⟩ := hw'; go_simp; (try with_reducible rfl))
  (try simp only [Act.put, De.l0, De.l1, De.l2])
  refine De.Rd.read (o := ?o14) (v := ?v14) 12 (by decide) ?q14 (by kernel_rfl) (by kernel_rfl) (by kernel_rfl) ?w14 ?y14 ?h14
  case q14 => (simp only [De.g0, De.g1, De.g2]; rfl)
  case w14 => kernel_rfl
  case y14 => (intro w' hw'; obtain ⟨x1, x2⟩ := hw'; go_simp; (try with_reducible rfl))
  (try simp only [Act.put, De.l0, De.l1, De.l2])
  refine De.Rd.read (o := ?o15) (v := ?v15) 13 (by decide) ?q15 (by kernel_rfl) (by kernel_rfl) (by kernel_rfl) ?w15 ?y15 ?h15
  case q15 => (simp only [De.g0, De.g1, De.g2]; rfl)
  case w15 => kernel_rfl
  case y15 => (intro w' hw'; obtain ⟨x1, x2⟩ := hw'; go_simp; (try with_reducible rfl))
  (try simp only [Act.put, De.l0, De.l1, De.l2])
  refine De.Rd.tail (fun w' hw' => ?_)
  subst hw'
  clear hw0
  (try simp only [Act.put, De.l0, De.l1, De.l2])
  (try refine De.MidP.tail ?_)
  refine De.Tl.write (o := ?o16) (by kernel_rfl) ?q16 ?g16 ?h16
  case q16 => (simp only [De.g0, De.g1, De.g2]; rfl)
  case g16 => rfl
  refine wp_setcell 22 _ _ rfl gh 0 (.slice (some ⟨gn, 0, none⟩) n c) rfl rfl (by go_simp) ?_
  refine ⟨⟨_, rfl⟩, fun h => absurd rfl h, ?_⟩
  (try refine De.MidP.tail ?_)
  refine De.Tl.done (by kernel_rfl) ?_
  (try simp only [Act.put, De.l0, De.l1, De.l2])
  obtain ⟨w1, hw1e⟩ : ∃ x, x = w.drew.setCell ⟨gh, 0, none⟩ (.slice (some ⟨gn, 0, none⟩) n c) := ⟨_, rfl⟩
  rw [← hw1e]
  have n1 : g1 ≠ gh := hG1.ne_ hB (by decide)
  have n2 : g2 ≠ gh := hG2.ne_ hB (by decide)
  have n3 : gh ≠ gc := hM.blk_ne hB
  have HS : Hid (∀ i, i ≠ gh → w1.heap[i]? = w.heap[i]?) := fun i hi => by rw [hw1e]; exact Below.heap_setCell w.drew ⟨gh, 0, none⟩ _ i hi
  have HB1 : Hid (Blk w1 gh 111 #[.slice (some ⟨gn, 0, none⟩) n c, V .chests, V .out, V .used]) := by
    have h := hB.drew.set_ 0 (.slice (some ⟨gn, 0, none⟩) n c)
    rw [hw1e]
    exact h
  have k1 : w1.cell? ⟨g1, 0, none⟩ = some (.string d) := Blk.at_ (w := w1) ((HS.out g1 n1).trans hG1) 0 rfl
  have k2 : w1.cell? ⟨g2, 0, none⟩ = some (.pointer (some ⟨gh, 0, none⟩)) := Blk.at_ (w := w1) ((HS.out g2 n2).trans hG2) 0 rfl
  have k3 : w1.cell? ⟨gh, 1, none⟩ = some (.map (some gc)) := by rw [← hVc]; exact HB1.out.cell 1
  have HM1 : Hid (MapS w1 gc fun k => Option.map (fun _ => V (Role.chest k)) (lk k (S.chests ++ [(d, newChest)]))) := hM.same (HS.out gc (Ne.symm n3))
  have HF : Hid (w1.os = w.os ∧ w1.tape = w.tape ∧ w1.output = w.output ∧ w1.heap.size = w.heap.size) := by rw [hw1e]; exact ⟨rfl, rfl, rfl, by simp⟩
  have HK : Hid (w1.cell? ⟨g1, 0, none⟩ = some (.string d) ∧ w1.cell? ⟨g2, 0, none⟩ = some (.pointer (some ⟨gh, 0, none⟩)) ∧ w1.cell? ⟨gh, 1, none⟩ = some (.map (some gc))) := ⟨k1, k2, k3⟩
  clear hw1e c0 f0 c1 e1 e2 k1 k2 k3
  go_wp2_with (fail)
  refine De.region_chain (fun w' => w'.cell? ⟨g1, 0, none⟩ = some (.string d) ∧ w'.cell? ⟨g2, 0, none⟩ = some (.pointer (some ⟨gh, 0, none⟩)) ∧ w'.cell? ⟨gh, 1, none⟩ = some (.map (some gc))) (fun w' => w' = w1.drew) 6 6 [] rfl (by kernel_rfl) (by kernel_rfl) (fun w' hw' => ?ji17) rfl ?rd17
  case ji17 => (subst hw'; exact HK.out)
  refine De.Rd.read (o := ?o18) (v := ?v18) 0 (by decide) ?q18 (by kernel_rfl) (by kernel_rfl) (by kernel_rfl) ?w18 ?y18 ?h18
  case q18 => (simp only [De.g0, De.g1, De.g2]; rfl)
  case w18 => kernel_rfl
  case y18 => (intro w' hw'; obtain ⟨x1, x2, x3⟩ := hw'; go_simp; (try with_reducible rfl))
  (try simp only [Act.put, De.l0, De.l1, De.l2])
  refine De.Rd.read (o := ?o19) (v := ?v19) 1 (by decide) ?q19 (by kernel_rfl) (by kernel_rfl) (by kernel_rfl) ?w19 ?y19 ?h19
  case q19 => (simp only [De.g0, De.g1, De.g2]; rfl)
  case w19 => kernel_rfl
  case y19 => (intro w' hw'; obtain ⟨x1, x2, x3⟩ := hw'; go_simp; (try with_reducible rfl))
  (try simp only [Act.put, De.l0, De.l1, De.l2])
  refine De.Rd.read (o := ?o20) (v := ?v20) 2 (by decide) ?q20 (by kernel_rfl) (by kernel_rfl) (by kernel_rfl) ?w20 ?y20 ?h20
  case q20 => (simp only [De.g0, De.g1, De.g2]; rfl)
  case w20 => kernel_rfl
  case y20 => (intro w' hw'; obtain ⟨x1, x2, x3⟩ := hw'; go_simp; (try with_reducible rfl))
  (try simp only [Act.put, De.l0, De.l1, De.l2])
  refine De.Rd.read (o := ?o21) (v := ?v21) 3 (by decide) ?q21 (by kernel_rfl) (by kernel_rfl) (by kernel_rfl) ?w21 ?y21 ?h21
  case q21 => (simp only [De.g0, De.g1, De.g2]; rfl)
  case w21 => kernel_rfl
  case y21 => (intro w' hw'; obtain ⟨x1, x2, x3⟩ := hw'; go_simp; (try with_reducible rfl))
  (try simp only [Act.put, De.l0, De.l1, De.l2])
  refine De.Rd.read (o := ?o22) (v := ?v22) 4 (by decide) ?q22 (by kernel_rfl) (by kernel_rfl) (by kernel_rfl) ?w22 ?y22 ?h22
  case q22 => (simp only [De.g0, De.g1, De.g2]; rfl)
  case w22 => kernel_rfl
  case y22 => (intro w' hw'; obtain ⟨x1, x2, x3⟩ := hw'; go_simp; (try with_reducible rfl))
  (try simp only [Act.put, De.l0, De.l1, De.l2])
  refine De.Rd.read (o := ?o23) (v := ?v23) 5 (by decide) ?q23 (by kernel_rfl) (by kernel_rfl) (by kernel_rfl) ?w23 ?y23 ?h23
  case q23 => (simp only [De.g0, De.g1, De.g2]; rfl)
  case w23 => kernel_rfl
  case y23 => (intro w' hw'; obtain ⟨x1, x2, x3⟩ := hw'; go_simp; (try with_reducible rfl))
  (try simp only [Act.put, De.l0, De.l1, De.l2])
  refine De.Rd.tail (fun w' hw' => ?_)
  subst hw'
  (try simp only [Act.put, De.l0, De.l1, De.l2])
  (try refine De.MidP.tail ?_)
  refine De.Tl.write (o := ?o24) (by kernel_rfl) ?q24 ?g24 ?h24
  case q24 => (simp only [De.g0, De.g1, De.g2]; rfl)
  case g24 => rfl
  refine wp_mapdel 107 9 98 9 _ _ rfl Tryz.underlying107 Tryz.underlying9 gc _ d rfl rfl HM1.out ?_
  intro w2 hM2 hgr2
  refine ⟨⟨_, rfl⟩, fun h => absurd rfl h, ?_⟩
  (try refine De.MidP.tail ?_)
  refine De.Tl.done (by kernel_rfl) ?_
  (try simp only [Act.put, De.l0, De.l1, De.l2])
  have HM2 := Lib.hid hM2
  have HG2 := Lib.hid hgr2
  clear hM2 hgr2
  go_wp2_with (fail)
  go_end0
  have hbg : ∀ i, i < w.heap.size → i ≠ gh → i ≠ gc → w2.heap[i]? = w.heap[i]? := fun i hi h1 h2 =>
    (HG2.out.block i (by show i < w1.heap.size; rw [HF.out.2.2.2]; exact hi) (fun e => h2 (by injection e))).trans (HS.out i h1)
  have bh : blkOf (V .house) = some gh := by rw [hV]; rfl
  have bc : blkOf (V .chests) = some gc := by rw [hVc]; rfl
  have bn : blkOf (V .names) = some gn := by rw [hN]; rfl
  refine ⟨rfl, updF V d (.slice (some ⟨gn, 0, none⟩) n c) .nilFunc .nilFunc .nilFunc .nilFunc, ?_, by simp [updF, updC, Vals.put], ?_⟩
  · refine H.setFound (chests' := S.chests) (fun r g hr r1 r2 r3 r4 r5 r6 r7 => hbg g (H.lt ⟨r, hr⟩) (H.ne_ hr bh r1) (H.ne_ hr bc r3)) ?_ ?_ ?_ ?_ ?_ ?_ (fun _ => rfl) (FreshAt.none rfl) rfl rfl rfl (fun g hg e => by cases e)
    · intro g hg
      obtain rfl : gh = g := by rw [hV] at hg; injection hg with h; injection h with h; injection h
      exact HB1.out.drew.some_ HG2.out n3
    · have h1 := H.nm
      rw [hN] at h1
      have h2 := ownS_take (k := n) h1 (by rw [hnl, hn']) (by rw [hnl, hn']; omega)
      rw [List.map_append, List.take_append_of_le_length (by simp [hn']), List.take_of_length_le (by simp [hn'])] at h2
      exact OwnS.same h2 fun g hg => hbg g (H.lt ⟨.names, by rw [bn]; exact hg⟩) (H.ne_ (r := .names) (by rw [bn]; exact hg) bh (by simp)) (H.ne_ (r := .names) (by rw [bn]; exact hg) bc (by simp))
    · intro g hg
      exact Or.inl (by rw [bn]; exact hg)
    · intro g hg
      obtain rfl : gc = g := by rw [hVc] at hg; injection hg with h; injection h
      refine HM2.out.congr fun q => ?_
      by_cases hq : q = d
      · rw [if_pos hq, if_pos hq, hd]; rfl
      · rw [if_neg hq, if_neg hq]
    · intro x hx
      show _ = lk x (S.chests ++ [(d, newChest)])
      rw [lk_append hd, if_neg hx]
    · intro c' hc'
      rw [hd] at hc'
      cases hc'
  · refine ⟨HG2.out.os.trans HF.out.1, HG2.out.tape.trans HF.out.2.1, HG2.out.output.trans HF.out.2.2.1, by rw [← HF.out.2.2.2]; exact HG2.out.size, fun i hi hF => hbg i hi (fun e => hF ⟨.house, by rw [e]; exact bh⟩) (fun e => hF ⟨.chests, by rw [e]; exact bc⟩), fun i hi => ?_⟩
    rcases foot_updF hi with h | h | h | h | h | h
    · exact Or.inl ⟨.names, by rw [bn]; exact h⟩
    · cases h
    · cases h
    · cases h
    · cases h
    · exact Or.inl h
set_option maxRecDepth 100000 in
/-- a drawer is told of -/
theorem founding_yes (H : HouseAt w V S) (d : ByteArray) (hd : lk d S.chests = none) (hn : S.chests.length < 4) :
    Calls Tryz.prog 213 #[.agg #[.string d], V .house] w (DoPost V S w (doP S (.found d))) := by
  obtain ⟨gh, hV, hB⟩ := H.hs
  obtain ⟨gc, hVc, hM⟩ := H.mc
  obtain ⟨A, c, hN, hc, hcm, _, hA⟩ := ownS_form H.nm
  have hnl : (S.chests.map (·.1)).length = S.chests.length := by simp
  rw [hnl] at hN hc
  have hrr : doP S (.found d) = (0, { S with chests := S.chests ++ [(d, newChest)] }) := by
    rw [doP, hd, if_neg (by simp), if_neg (by omega)]
  rw [hrr]
  have HLK := Lib.hid (fun (w' : World) (hb : Below w.heap.size w w') => H.lookC (fun g hg => hb.block g (H.lt hg)) hVc d)
  have HL2 : Hid (∀ w', Below w.heap.size w w' → (Instr.lookup 107 (.map (some gc)) (.string d) false).run Tryz.prog w' = .ok (.pointer none) w') := by
    intro w' hb
    have := HLK.out w' hb
    rw [hd] at this
    exact this
  obtain ⟨n, hn'⟩ : ∃ n, S.chests.length = n := ⟨_, rfl⟩
  rw [hn'] at hN hc hn
  have hq4 : ((n : Int) == 4) = false := by simp; omega
  unfold maxLen at hcm
  have c0 : w.cell? ⟨gh, 0, none⟩ = some (.slice A n c) := by rw [← hN]; exact hB.cell 0
  have c1 : w.cell? ⟨gh, 1, none⟩ = some (.map (some gc)) := by rw [← hVc]; exact hB.cell 1
  have hgl := hB.lt
  have HV := Lib.hid hV
  have HVC := Lib.hid hVc
  have HN := Lib.hid hN
  have HN' := Lib.hid hn'
  have HD := Lib.hid hd
  have hnm := H.nm
  rw [hN] at hnm
  have HNM := Lib.hid hnm
  rw [hV]
  generalize hPo : DoPost V S w (0, { S with chests := S.chests ++ [(d, newChest)] }) = Po
  have HPO := Lib.hid hPo
  clear hPo hV hVc hN hn' hd hrr HLK hnl hnm
  go_enter Tryz.func213, Tryz.ntmps213
  go_wp2_with (first
    | (with_reducible show wpList _ _ _ (⟨_, .box 206 _, _, _, _, _⟩ :: _) _ _
       refine wpList_box_cells rfl 206 _ rfl (.agg #[.string d]) #[.string d] rfl rfl ?_
       intro w1 g1 hG1 hgr1 hge1)
    | (with_reducible show wpList _ _ _ (⟨_, .box 37 _, _, _, _, _⟩ :: _) _ _
       refine wpList_box_cells rfl 37 _ rfl (.pointer (some ⟨gh, 0, none⟩)) #[.pointer (some ⟨gh, 0, none⟩)] rfl rfl ?_
       intro w2 g2 hG2 hgr2 hge2
       have hb1 := below_grown hgr1
       have hb2 := hb1.trans ((below_grown hgr2).mono hb1.size)
       have hG1' := hG1.none_ hgr2
       have d1 : w2.cell? ⟨g1, 0, none⟩ = some (.string d) := hG1'.at_ 0 rfl
       have d2 : w2.cell? ⟨g2, 0, none⟩ = some (.pointer (some ⟨gh, 0, none⟩)) := hG2.at_ 0 rfl
       have d0 : w2.cell? ⟨gh, 0, none⟩ = some (.slice A n c) := (hb2.cell (p := ⟨gh, 0, none⟩) hgl).trans c0
       have d3 : w2.cell? ⟨gh, 1, none⟩ = some (.map (some gc)) := (hb2.cell (p := ⟨gh, 1, none⟩) hgl).trans c1
       have d4 := fun q => HL2.out (w2.drewN q) (below_drewN hb2 q)))
  have hg2l := hge2
  have hz1 := hb1.size
  have HB := Lib.hid hb2
  have HG1 := Lib.hid hG1'
  have HG2 := Lib.hid hG2
  have HGE : Hid (w.heap.size ≤ g1 ∧ w.heap.size ≤ g2 ∧ g1 ≠ g2) := ⟨hge1, Nat.le_trans hb1.size hge2, fun e => by have := hG1.lt; omega⟩
  clear hb1 hb2 hgr1 hgr2 c0 c1 hge1 hge2 hG1 hG1' hG2 hg2l hz1
  go_quiet (fail)
  go_wp2_with (fail)
  obtain ⟨w3, hw3⟩ : ∃ x, x = w2.drewN nq := ⟨_, rfl⟩
  rw [← hw3]
  have hb3 : Below w.heap.size w w3 := by rw [hw3]; exact below_drewN HB.out _
  have HB3 := Lib.hid hb3
  have HG13 : Hid (Blk w3 g1 206 #[.string d]) := by rw [hw3]; exact HG1.out
  have HG23 : Hid (Blk w3 g2 37 #[.pointer (some ⟨gh, 0, none⟩)]) := by rw [hw3]; exact HG2.out
  have HH3 := Lib.hid (H.callee hb3)
  have HH0 := Lib.hid H
  have HBh : Hid (Blk w3 gh 111 #[V .names, V .chests, V .out, V .used]) := hB.callee hb3
  have HM3 := Lib.hid (hM.same (hb3.block gc (H.lt ⟨.chests, by rw [HVC.out]; rfl⟩)))
  have HNM3 : Hid (OwnS w3 0 (.slice A n c) (S.chests.map (·.1))) := HNM.out.callee hb3
  have HK : Hid (w3.cell? ⟨g1, 0, none⟩ = some (.string d) ∧ w3.cell? ⟨g2, 0, none⟩ = some (.pointer (some ⟨gh, 0, none⟩)) ∧ w3.cell? ⟨gh, 0, none⟩ = some (.slice A n c)) := by rw [hw3]; exact ⟨d1, d2, d0⟩
  clear hw3 d0 d1 d2 d3 d4 HL2 HG1 HG2 HB hb3 H hB hM HNM
  refine De.region_chain (fun w' => w'.cell? ⟨g1, 0, none⟩ = some (.string d) ∧ w'.cell? ⟨g2, 0, none⟩ = some (.pointer (some ⟨gh, 0, none⟩)) ∧ w'.cell? ⟨gh, 0, none⟩ = some (.slice A n c)) (fun w' => w' = w3.drew) 7 11 [8, 9, 10, 11] rfl (by kernel_rfl) (by kernel_rfl) (fun w' hw' => ?ji25) rfl ?rd25
  case ji25 => (subst hw'; exact HK.out)
  refine De.Rd.read (o := ?o26) (v := ?v26) 0 (by decide) ?q26 (by kernel_rfl) (by kernel_rfl) (by kernel_rfl) ?w26 ?y26 ?h26
  case q26 => (simp only [De.g0, De.g1, De.g2]; rfl)
  case w26 => kernel_rfl
  case y26 => (intro w' hw'; obtain ⟨x1, x2, x3⟩ := hw'; go_simp; (try with_reducible rfl))
  (try simp only [Act.put, De.l0, De.l1, De.l2])
  refine De.Rd.read (o := ?o27) (v := ?v27) 1 (by decide) ?q27 (by kernel_rfl) (by kernel_rfl) (by kernel_rfl) ?w27 ?y27 ?h27
  case q27 => (simp only [De.g0, De.g1, De.g2]; rfl)
  case w27 => kernel_rfl
  case y27 => (intro w' hw'; obtain ⟨x1, x2, x3⟩ := hw'; go_simp; (try with_reducible rfl))
  (try simp only [Act.put, De.l0, De.l1, De.l2])
  refine De.Rd.read (o := ?o28) (v := ?v28) 2 (by decide) ?q28 (by kernel_rfl) (by kernel_rfl) (by kernel_rfl) ?w28 ?y28 ?h28
  case q28 => (simp only [De.g0, De.g1, De.g2]; rfl)
  case w28 => kernel_rfl
  case y28 => (intro w' hw'; obtain ⟨x1, x2, x3⟩ := hw'; go_simp; (try with_reducible rfl))
  (try simp only [Act.put, De.l0, De.l1, De.l2])
  refine De.Rd.read (o := ?o29) (v := ?v29) 3 (by decide) ?q29 (by kernel_rfl) (by kernel_rfl) (by kernel_rfl) ?w29 ?y29 ?h29
  case q29 => (simp only [De.g0, De.g1, De.g2]; rfl)
  case w29 => kernel_rfl
  case y29 => (intro w' hw'; obtain ⟨x1, x2, x3⟩ := hw'; go_simp; (try with_reducible rfl))
  (try simp only [Act.put, De.l0, De.l1, De.l2])
  refine De.Rd.read (o := ?o30) (v := ?v30) 4 (by decide) ?q30 (by kernel_rfl) (by kernel_rfl) (by kernel_rfl) ?w30 ?y30 ?h30
  case q30 => (simp only [De.g0, De.g1, De.g2]; rfl)
  case w30 => kernel_rfl
  case y30 => (intro w' hw'; obtain ⟨x1, x2, x3⟩ := hw'; go_simp; (try with_reducible rfl))
  (try simp only [Act.put, De.l0, De.l1, De.l2])
  refine De.Rd.read (o := ?o31) (v := ?v31) 5 (by decide) ?q31 (by kernel_rfl) (by kernel_rfl) (by kernel_rfl) ?w31 ?y31 ?h31
  case q31 => (simp only [De.g0, De.g1, De.g2]; rfl)
  case w31 => kernel_rfl
  case y31 => (intro w' hw'; obtain ⟨x1, x2, x3⟩ := hw'; go_simp; (try with_reducible rfl))
  (try simp only [Act.put, De.l0, De.l1, De.l2])
  refine De.Rd.read (o := ?o32) (v := ?v32) 6 (by decide) ?q32 (by kernel_rfl) (by kernel_rfl) (by kernel_rfl) ?w32 ?y32 ?h32
  case q32 => (simp only [De.g0, De.g1, De.g2]; rfl)
  case w32 => kernel_rfl
  case y32 => (intro w' hw'; obtain ⟨x1, x2, x3⟩ := hw'; go_simp; (try with_reducible rfl))
  (try simp only [Act.put, De.l0, De.l1, De.l2])
  refine De.Rd.tail (fun w' hw' => ?_)
  subst hw'
  (try simp only [Act.put, De.l0, De.l1, De.l2])
  (try refine De.MidP.tail ?_)
  refine De.Tl.write (o := ?o33) (by kernel_rfl) ?q33 ?g33 ?h33
  case q33 => (simp only [De.g0, De.g1, De.g2]; rfl)
  case g33 => rfl
  refine wp_lit1 22 9 _ (.string d) rfl rfl (lit_str d) ?_
  intro w4 g4 hG4 hgr4 hge4
  have hB1 := HG13.out.drew.none_ hgr4
  have hB2 := HG23.out.drew.none_ hgr4
  have hBh := HBh.out.drew.none_ hgr4
  refine ⟨⟨_, rfl⟩, fun _ => ⟨hB1.at_ 0 rfl, hB2.at_ 0 rfl, hBh.at_ 0 (congrArg some HN.out)⟩, ?_⟩
  have hO := HNM3.out.drew.none_ hgr4
  (try simp only [Act.put, De.l0, De.l1, De.l2])
  (try refine De.MidP.tail ?_)
  refine De.Tl.write (o := ?o34) (by kernel_rfl) ?q34 ?g34 ?h34
  case q34 => (simp only [De.g0, De.g1, De.g2]; rfl)
  case g34 => rfl
  refine wp_pushS (v := .slice A n c) _ _ rfl rfl hO g4 1 d rfl hG4 (by simp only [List.length_map]; rw [HN'.out]; omega) (Nat.zero_le _) ?_
  intro gn cn w5 hO5 hgr5 hat5 hlt5
  have hnl : (S.chests.map (·.1)).length = n := by rw [List.length_map, HN'.out]
  rw [hnl] at hO5 ⊢
  have oe := own_blkS hO
  have ne1 : (Value.slice A n c).ownBlock ≠ some g1 := hO.blk_ne hB1 (by decide)
  have ne2 : (Value.slice A n c).ownBlock ≠ some g2 := hO.blk_ne hB2 (by decide)
  have neh : (Value.slice A n c).ownBlock ≠ some gh := hO.blk_ne hBh (by decide)
  have hB15 := hB1.grown hgr5 (Ne.symm ne1)
  have hB25 := hB2.grown hgr5 (Ne.symm ne2)
  have hBh5 := hBh.grown hgr5 (Ne.symm neh)
  have K5 : Hid (w5.cell? ⟨g1, 0, none⟩ = some (.string d) ∧ w5.cell? ⟨g2, 0, none⟩ = some (.pointer (some ⟨gh, 0, none⟩)) ∧ w5.cell? ⟨gh, 0, none⟩ = some (.slice A n c)) := ⟨hB15.at_ 0 rfl, hB25.at_ 0 rfl, hBh5.at_ 0 (congrArg some HN.out)⟩
  refine ⟨⟨_, rfl⟩, fun _ => K5.out, ?_⟩
  (try simp only [Act.put, De.l0, De.l1, De.l2])
  (try refine De.MidP.tail ?_)
  refine De.Tl.write (o := ?o35) (by kernel_rfl) ?q35 ?g35 ?h35
  case q35 => (simp only [De.g0, De.g1, De.g2]; rfl)
  case g35 => rfl
  refine De.wp_pure ?v35 ?y35 ?k35
  case y35 => (go_simp; (try with_reducible rfl))
  (try simp only [Act.put, De.l0, De.l1, De.l2])
  refine ⟨⟨_, rfl⟩, fun _ => K5.out, ?_⟩
  (try simp only [Act.put, De.l0, De.l1, De.l2])
  (try refine De.MidP.tail ?_)
  refine De.Tl.write (o := ?o36) (by kernel_rfl) ?q36 ?g36 ?h36
  case q36 => (simp only [De.g0, De.g1, De.g2]; rfl)
  case g36 => rfl
  refine De.wp_pure ?v36 ?y36 ?k36
  case y36 => (go_simp; (try with_reducible rfl))
  (try simp only [Act.put, De.l0, De.l1, De.l2])
  refine ⟨⟨_, rfl⟩, fun _ => K5.out, ?_⟩
  (try simp only [Act.put, De.l0, De.l1, De.l2])
  (try refine De.MidP.tail ?_)
  refine De.Tl.write (o := ?o37) (by kernel_rfl) ?q37 ?g37 ?h37
  case q37 => (simp only [De.g0, De.g1, De.g2]; rfl)
  case g37 => rfl
  have f5 := hBh5.frozen 0
  have c5 : w5.cell? ⟨gh, 0, none⟩ = some (.slice A n c) := K5.out.2.2
  refine wp_setcell 22 _ _ rfl gh 0 (.slice (some ⟨gn, 0, none⟩) (n + 1) cn) rfl rfl (by go_simp) ?_
  refine ⟨⟨_, rfl⟩, fun h => absurd rfl h, ?_⟩
  (try refine De.MidP.tail ?_)
  refine De.Tl.done (by kernel_rfl) ?_
  (try simp only [Act.put, De.l0, De.l1, De.l2])
  obtain ⟨w6, hw6⟩ : ∃ x, x = w5.setCell ⟨gh, 0, none⟩ (.slice (some ⟨gn, 0, none⟩) (n + 1) cn) := ⟨_, rfl⟩
  rw [← hw6]
  have bh : blkOf (V .house) = some gh := by rw [HV.out]; rfl
  have bc : blkOf (V .chests) = some gc := by rw [HVC.out]; rfl
  have H := HH3.out
  have n1 : g1 ≠ gh := hB15.ne_ hBh5 (by decide)
  have n2 : g2 ≠ gh := hB25.ne_ hBh5 (by decide)
  have ngc : gh ≠ gc := H.ne_ bh bc (by simp)
  have nnc : (Value.slice A n c).ownBlock ≠ some gc := fun e => H.ne_ (r := .names) (by rw [HN.out, ← oe]; exact e) bc (by simp) rfl
  have hs6 : w6.heap.size = w5.heap.size := by rw [hw6]; simp
  have st6 : ∀ i, i ≠ gh → w6.heap[i]? = w5.heap[i]? := fun i hi => by rw [hw6]; exact Below.heap_setCell w5 ⟨gh, 0, none⟩ _ i hi
  have hB16 : Blk w6 g1 206 #[.string d] := (st6 g1 n1).trans hB15
  have hB26 : Blk w6 g2 37 #[.pointer (some ⟨gh, 0, none⟩)] := (st6 g2 n2).trans hB25
  have hBh6 : Blk w6 gh 111 #[.slice (some ⟨gn, 0, none⟩) (n + 1) cn, V .chests, V .out, V .used] := by
    rw [hw6]; exact hBh5.set_ 0 _
  have hO6 : OwnS w6 0 (.slice (some ⟨gn, 0, none⟩) (n + 1) cn) (S.chests.map (·.1) ++ [d]) := OwnS.same hO5 fun g hg => st6 g (fun e => by
    subst e
    exact hO5.blk_ne hBh5 (by decide) hg)
  have hsz3 := HB3.out.size
  have hsz4 : w3.heap.size ≤ w4.heap.size := hgr4.size
  have hsz5 := hgr5.size
  have stO : ∀ i, i < w.heap.size → i ≠ gh → blkOf (V .names) ≠ some i → w6.heap[i]? = w.heap[i]? := fun i hi h1 h2 =>
    (st6 i h1).trans ((hgr5.block i (by omega) (fun e => h2 (by rw [HN.out, ← oe]; exact e.symm))).trans ((hgr4.block i (by show i < w3.heap.size; omega) (by simp)).trans (HB3.out.block i hi)))
  have gcl := H.lt ⟨_, bc⟩
  have hM6 : MapS w6 gc fun k => Option.map (fun _ => V (Role.chest k)) (lk k S.chests) := HM3.out.same ((st6 gc (Ne.symm ngc)).trans ((hgr5.block gc (by omega) (fun e => nnc e.symm)).trans (hgr4.block gc (by show gc < w3.heap.size; omega) (by simp))))
  have HX : Hid (w6.os = w.os ∧ w6.tape = w.tape ∧ w6.output = w.output) := by
    rw [hw6]
    exact ⟨(hgr5.os.trans hgr4.os).trans HB3.out.os, (hgr5.tape.trans hgr4.tape).trans HB3.out.tape, (hgr5.output.trans hgr4.output).trans HB3.out.output⟩
  have HNW : Hid (NewAt w V .names (.slice (some ⟨gn, 0, none⟩) (n + 1) cn)) := by
    intro g hg
    obtain rfl : gn = g := by injection hg
    rcases hat5 with h | h
    · exact Or.inl (by rw [HN.out, ← oe]; exact h)
    · exact Or.inr (by have := HB3.out.size; omega)
  have HGN : Hid (gn < w6.heap.size) := by rw [hs6]; exact hlt5
  have K6 : Hid (w6.cell? ⟨g1, 0, none⟩ = some (.string d) ∧ w6.cell? ⟨g2, 0, none⟩ = some (.pointer (some ⟨gh, 0, none⟩)) ∧ w6.cell? ⟨gh, 1, none⟩ = some (.map (some gc))) := ⟨hB16.at_ 0 rfl, hB26.at_ 0 rfl, hBh6.at_ 1 (congrArg some HVC.out)⟩
  have HB16 := Lib.hid hB16
  have HB26 := Lib.hid hB26
  have HBH6 := Lib.hid hBh6
  have HO6 := Lib.hid hO6
  have HM6 := Lib.hid hM6
  have HST := Lib.hid stO
  have HS6 : Hid (w3.heap.size ≤ w6.heap.size) := by rw [Hid]; omega
  clear hw6 hB16 hB26 hBh6 hO6 hM6 stO st6 hs6 hO5 hgr5 hat5 hlt5 hsz5 hgr4 hG4 hge4 hB1 hB2 hBh hO hB15 hB25 hBh5 f5 c5 oe ne1 ne2 neh hnl hsz3 hsz4
  go_wp2_with (fail)
  refine De.region_chain (fun w' => w'.cell? ⟨g1, 0, none⟩ = some (.string d) ∧ w'.cell? ⟨g2, 0, none⟩ = some (.pointer (some ⟨gh, 0, none⟩)) ∧ w'.cell? ⟨gh, 1, none⟩ = some (.map (some gc))) (fun w' => w' = w6.drew) 7 8 [8] rfl (by kernel_rfl) (by kernel_rfl) (fun w' hw' => ?ji38) rfl ?rd38
  case ji38 => (subst hw'; exact K6.out)
  refine De.Rd.read (o := ?o39) (v := ?v39) 0 (by decide) ?q39 (by kernel_rfl) (by kernel_rfl) (by kernel_rfl) ?w39 ?y39 ?h39
  case q39 => (simp only [De.g0, De.g1, De.g2]; rfl)
  case w39 => kernel_rfl
  case y39 => (intro w' hw'; obtain ⟨x1, x2, x3⟩ := hw'; go_simp; (try with_reducible rfl))
  (try simp only [Act.put, De.l0, De.l1, De.l2])
  refine De.Rd.read (o := ?o40) (v := ?v40) 1 (by decide) ?q40 (by kernel_rfl) (by kernel_rfl) (by kernel_rfl) ?w40 ?y40 ?h40
  case q40 => (simp only [De.g0, De.g1, De.g2]; rfl)
  case w40 => kernel_rfl
  case y40 => (intro w' hw'; obtain ⟨x1, x2, x3⟩ := hw'; go_simp; (try with_reducible rfl))
  (try simp only [Act.put, De.l0, De.l1, De.l2])
  refine De.Rd.read (o := ?o41) (v := ?v41) 2 (by decide) ?q41 (by kernel_rfl) (by kernel_rfl) (by kernel_rfl) ?w41 ?y41 ?h41
  case q41 => (simp only [De.g0, De.g1, De.g2]; rfl)
  case w41 => kernel_rfl
  case y41 => (intro w' hw'; obtain ⟨x1, x2, x3⟩ := hw'; go_simp; (try with_reducible rfl))
  (try simp only [Act.put, De.l0, De.l1, De.l2])
  refine De.Rd.read (o := ?o42) (v := ?v42) 3 (by decide) ?q42 (by kernel_rfl) (by kernel_rfl) (by kernel_rfl) ?w42 ?y42 ?h42
  case q42 => (simp only [De.g0, De.g1, De.g2]; rfl)
  case w42 => kernel_rfl
  case y42 => (intro w' hw'; obtain ⟨x1, x2, x3⟩ := hw'; go_simp; (try with_reducible rfl))
  (try simp only [Act.put, De.l0, De.l1, De.l2])
  refine De.Rd.read (o := ?o43) (v := ?v43) 4 (by decide) ?q43 (by kernel_rfl) (by kernel_rfl) (by kernel_rfl) ?w43 ?y43 ?h43
  case q43 => (simp only [De.g0, De.g1, De.g2]; rfl)
  case w43 => kernel_rfl
  case y43 => (intro w' hw'; obtain ⟨x1, x2, x3⟩ := hw'; go_simp; (try with_reducible rfl))
  (try simp only [Act.put, De.l0, De.l1, De.l2])
  refine De.Rd.read (o := ?o44) (v := ?v44) 5 (by decide) ?q44 (by kernel_rfl) (by kernel_rfl) (by kernel_rfl) ?w44 ?y44 ?h44
  case q44 => (simp only [De.g0, De.g1, De.g2]; rfl)
  case w44 => kernel_rfl
  case y44 => (intro w' hw'; obtain ⟨x1, x2, x3⟩ := hw'; go_simp; (try with_reducible rfl))
  (try simp only [Act.put, De.l0, De.l1, De.l2])
  refine De.Rd.read (o := ?o45) (v := ?v45) 6 (by decide) ?q45 (by kernel_rfl) (by kernel_rfl) (by kernel_rfl) ?w45 ?y45 ?h45
  case q45 => (simp only [De.g0, De.g1, De.g2]; rfl)
  case w45 => kernel_rfl
  case y45 => (intro w' hw'; obtain ⟨x1, x2, x3⟩ := hw'; go_simp; (try with_reducible rfl))
  (try simp only [Act.put, De.l0, De.l1, De.l2])
  refine De.Rd.tail (fun w' hw' => ?_)
  subst hw'
  (try simp only [Act.put, De.l0, De.l1, De.l2])
  (try refine De.MidP.tail ?_)
  refine De.Tl.write (o := ?o46) (by kernel_rfl) ?q46 ?g46 ?h46
  case q46 => (simp only [De.g0, De.g1, De.g2]; rfl)
  case g46 => rfl
  refine wp_box 103 _ (.agg #[.slice none 0 0, .slice none 0 0, .bool false, .int .i64 0, .int .i64 0, .slice none 0 0]) _ rfl rfl rfl ?_
  intro w7 g7 hG7 hgr7 hge7
  refine ⟨⟨_, rfl⟩, fun _ => ⟨(HB16.out.drew.none_ hgr7).at_ 0 rfl, (HB26.out.drew.none_ hgr7).at_ 0 rfl, (HBH6.out.drew.none_ hgr7).at_ 1 (congrArg some HVC.out)⟩, ?_⟩
  (try simp only [Act.put, De.l0, De.l1, De.l2])
  (try refine De.MidP.tail ?_)
  refine De.Tl.write (o := ?o47) (by kernel_rfl) ?q47 ?g47 ?h47
  case q47 => (simp only [De.g0, De.g1, De.g2]; rfl)
  case g47 => rfl
  refine wp_mapput 107 9 98 _ _ _ rfl Tryz.underlying107 Tryz.underlying9 gc _ d (.pointer (some ⟨g7, 0, none⟩)) rfl rfl rfl (HM6.out.same (hgr7.block gc HM6.out.lt (by simp))) ?_
  intro w8 hM8 hgr8
  refine ⟨⟨_, rfl⟩, fun h => absurd rfl h, ?_⟩
  (try refine De.MidP.tail ?_)
  refine De.Tl.done (by kernel_rfl) ?_
  (try simp only [Act.put, De.l0, De.l1, De.l2])
  have HG7 := Lib.hid hG7
  have HR7 := Lib.hid hgr7
  have HE7 := Lib.hid hge7
  have HM8 := Lib.hid hM8
  have HR8 := Lib.hid hgr8
  clear hG7 hgr7 hge7 hM8 hgr8
  go_wp2_with (fail)
  have H := HH0.out
  have HFR := Lib.hid (HNW.out.fresh H)
  rw [← HPO.out]
  have hs3 := HB3.out.size
  have hs6 := HS6.out
  have hs7 : w6.heap.size ≤ w7.heap.size := HR7.out.size
  have hs8 := HR8.out.size
  have hg7 : w6.heap.size ≤ g7 := HE7.out
  have hst : ∀ i, i < w.heap.size → i ≠ gh → blkOf (V .names) ≠ some i → i ≠ gc → w8.heap[i]? = w.heap[i]? := fun i hi h1 h2 h3 =>
    (HR8.out.block i (by omega) (fun e => h3 (by injection e))).trans ((HR7.out.block i (by show i < w6.heap.size; omega) (by simp)).trans (HST.out i hi h1 h2))
  have hB8 : ∀ {g : Nat} {ty : TypeId} {cs : Array Value}, Blk w6 g ty cs → g ≠ gc → Blk w8 g ty cs := fun h hne => ((Blk.drew h).none_ HR7.out).some_ HR8.out hne
  have bn : blkOf (.slice (some ⟨gn, 0, none⟩) (n + 1) cn) = some gn := rfl
  have hng : gn ≠ gc := fun e => by
    rcases HFR.out gn bn with h | h
    · exact H.ne_ (r := .names) h bc (by simp) e
    · exact h ⟨.chests, by rw [e]; exact bc⟩
  have hf8 : HouseAt w8 (updF V d (.slice (some ⟨gn, 0, none⟩) (n + 1) cn) (.pointer (some ⟨g7, 0, none⟩)) (.slice none 0 0) (.slice none 0 0) (.slice none 0 0)) { S with chests := S.chests ++ [(d, newChest)] } := by
    refine H.setFound (chests' := S.chests ++ [(d, newChest)]) (fun r g hr r1 r2 r3 r4 r5 r6 r7 => hst g (H.lt ⟨r, hr⟩) (H.ne_ hr bh r1) (fun e => H.ne_ hr e r2 rfl) (H.ne_ hr bc r3)) ?_ ?_ HFR.out ?_ ?_ ?_ ?_ ?_ rfl rfl rfl ?_
    · intro g hg
      obtain rfl : gh = g := by rw [HV.out] at hg; injection hg with h; injection h with h; injection h
      exact hB8 HBH6.out ngc
    · rw [List.map_append]
      refine OwnS.same HO6.out fun g hg => ?_
      obtain rfl : gn = g := by injection hg
      exact (HR8.out.block gn (by have := HGN.out; omega) (fun e => hng (by injection e))).trans (HR7.out.block gn HGN.out (by simp))
    · intro g hg
      obtain rfl : gc = g := by rw [HVC.out] at hg; injection hg with h; injection h
      refine HM8.out.congr fun q => ?_
      by_cases hq : q = d
      · subst hq
        rw [if_pos rfl, if_pos rfl, lk_append HD.out, if_pos rfl]; rfl
      · rw [if_neg hq, if_neg hq]
    · intro x hx
      rw [lk_append HD.out, if_neg hx]
    · intro c' hc'
      rw [lk_append HD.out, if_pos rfl] at hc'
      injection hc' with hc'
      subst hc'
      refine ⟨⟨g7, rfl, HG7.out.some_ HR8.out (fun e => by have := H.lt ⟨_, bc⟩; omega)⟩, OwnI.nil _ _, OwnI.nil _ _, OwnS.nil _ _⟩
    · intro h
      rw [lk_append HD.out, if_pos rfl] at h
      cases h
    · intro g hg
      obtain rfl : g7 = g := by injection hg
      exact Or.inr fun hF => by have := H.lt hF; omega
    · intro g hg e
      obtain rfl : gn = g := by injection hg
      have : g7 = gn := by injection e
      have := HGN.out
      omega
  have hfr : Frm (Foot V) w (Foot (updF V d (.slice (some ⟨gn, 0, none⟩) (n + 1) cn) (.pointer (some ⟨g7, 0, none⟩)) (.slice none 0 0) (.slice none 0 0) (.slice none 0 0))) w8 := by
    refine ⟨(HR8.out.os.trans HR7.out.os).trans HX.out.1, (HR8.out.tape.trans HR7.out.tape).trans HX.out.2.1, (HR8.out.output.trans HR7.out.output).trans HX.out.2.2, by omega, fun i hi hF => hst i hi (fun e => hF ⟨.house, by rw [e]; exact bh⟩) (fun e => hF ⟨.names, e⟩) (fun e => hF ⟨.chests, by rw [e]; exact bc⟩), fun i hi => ?_⟩
    rcases foot_updF hi with h | h | h | h | h | h
    · obtain rfl : gn = i := by injection h
      exact HNW.out.foot bn
    · obtain rfl : g7 = i := by injection h
      exact Or.inr (by omega)
    · cases h
    · cases h
    · cases h
    · exact Or.inl h
  have hVh : updF V d (.slice (some ⟨gn, 0, none⟩) (n + 1) cn) (.pointer (some ⟨g7, 0, none⟩)) (.slice none 0 0) (.slice none 0 0) (.slice none 0 0) .house = V .house := by simp [updF, updC, Vals.put]
  have b1 : Blk w8 g1 206 #[.string d] := hB8 HB16.out (fun e => by have := H.lt ⟨_, bc⟩; have := HGE.out; omega)
  have b2 : Blk w8 g2 37 #[.pointer (some ⟨gh, 0, none⟩)] := hB8 HB26.out (fun e => by have := H.lt ⟨_, bc⟩; have := HGE.out; omega)
  refine Or.inr ⟨rfl, _, _, _, rfl, hf8, hVh, hfr, enters_of Tryz.func214 (by kernel_rfl) rfl, fun w'' hb'' => ?_⟩
  refine (founding_undo (hf8.later hb'' hfr.foot) (hVh.trans HV.out) ((hb''.block g2 b2.lt (Or.inl (by have := HGE.out; omega))).trans b2) ((hb''.block g1 b1.lt (Or.inl (by have := HGE.out; omega))).trans b1) HD.out (by rw [HN'.out]; omega)).mono ?_
  rintro e w9 ⟨he, V3, h1, h2, h3⟩
  exact ⟨he, V3, h1, h2.trans hVh, Back.of_frm hfr hb''.size h3⟩
end
end Dr
end Go.Proofs.YtbgakdpbglpfaaaGreatDoor
-- the text DrD
namespace Go.Proofs.YtbgakdpbglpfaaaGreatDoor
open Go.RowKit
namespace Dr
set_option linter.unusedSimpArgs false
section
variable {w : World} {V : Vals} {S : House}
theorem own_mono0 {b : Nat} {v : Value} {xs : List Int} (h : OwnI w b v xs) : OwnI w 0 v xs := by
  refine ⟨h.1, ?_⟩
  rcases h.2 with h0 | ⟨g, cap, cur, e, hb, r⟩
  · exact .inl h0
  · exact .inr ⟨g, cap, cur, e, Nat.zero_le _, r⟩
theorem ownS_mono0 {b : Nat} {v : Value} {xs : List ByteArray} (h : OwnS w b v xs) : OwnS w 0 v xs := by
  refine ⟨h.1, ?_⟩
  rcases h.2 with h0 | ⟨g, cap, cur, e, hb, r⟩
  · exact .inl h0
  · exact .inr ⟨g, cap, cur, e, Nat.zero_le _, r⟩
/-- v is a new row of numbers -/
def NewN (w w' : World) (v : Value) (xs : List Nat) : Prop := OwnN w' v xs ∧ ∀ g, blkOf v = some g → w.heap.size ≤ g
def NewT (w w' : World) (v : Value) (xs : List ByteArray) : Prop := OwnT w' v xs ∧ ∀ g, blkOf v = some g → w.heap.size ≤ g
theorem new_of_row {w' : World} {v : Value} {xs : List Int} (h : OwnI w' w.heap.size v xs) : OwnI w' 0 v xs ∧ ∀ g, blkOf v = some g → w.heap.size ≤ g :=
  ⟨own_mono0 h, fun g hg => h.ge (by rw [own_blk (own_mono0 h)]; exact hg)⟩
theorem cloneI_any {v : Value} {xs : List Nat} (h : OwnN w v xs) (hl : xs.length ≤ 1000000) :
    Calls Tryz.prog 77 #[v] w fun e w' => ∃ v', e = .returned v' ∧ NewN w w' v' xs ∧ Below w.heap.size w w' := by
  obtain ⟨A, c, rfl, hc, hm, hr, hA⟩ := ownN_form h
  by_cases h0 : xs.length = 0
  · have hx : xs = [] := List.eq_nil_of_length_eq_zero h0
    subst hx
    cases A with
    | none =>
      refine (Tryz.slices_Clone_int_nil 0 c w).mono ?_
      rintro e w' ⟨rfl, rfl⟩
      exact ⟨_, rfl, ⟨OwnI.nil _ _, fun g hg => by cases hg⟩, Below.refl _ _⟩
    | some a =>
      refine (Tryz.slices_Clone_int_zero a c w).mono ?_
      rintro e w' ⟨v', rfl, h1, _, h2⟩
      exact ⟨_, rfl, new_of_row (xs := []) h1, h2⟩
  · obtain ⟨g, rfl⟩ := hA (by omega)
    refine (Tryz.slices_Clone_int g 0 xs.length c (natI xs) w (by rw [natI_length]; exact Nat.le_refl _) (by omega) ?_).mono ?_
    · intro j hj
      obtain ⟨ad, x, e, _, hcell, hx⟩ := hr.at_ (k := j) (by rw [natI_length] at hj; exact hj)
      injection e with e
      subst e
      have hx' := hx.out
      have : (⟨g, 0 + j, none⟩ : Addr) = (⟨g, 0, none⟩ : Addr).add j := by unfold Addr.add; split <;> simp_all
      rw [this, hcell, List.getD_eq_getElem?_getD, hx']
      rfl
    · rintro e w' ⟨v', rfl, h1, _, h2⟩
      refine ⟨_, rfl, new_of_row (xs := natI xs) ?_, h2⟩
      rw [List.take_of_length_le (by rw [natI_length]; exact Nat.le_refl _)] at h1
      unfold OwnI
      rw [natI_length]
      exact h1
theorem cloneS_any {v : Value} {xs : List ByteArray} (h : OwnT w v xs) (hl : xs.length ≤ 1000000) :
    Calls Tryz.prog 61 #[v] w fun e w' => ∃ v', e = .returned v' ∧ NewT w w' v' xs ∧ Below w.heap.size w w' := by
  obtain ⟨A, c, rfl, hc, hm, hr, hA⟩ := ownS_form h
  have hnew : ∀ {w' : World} {v' : Value} {xs : List ByteArray}, OwnS w' w.heap.size v' xs → NewT w w' v' xs := fun h => ⟨ownS_mono0 h, fun g hg => h.ge (by rw [own_blkS (ownS_mono0 h)]; exact hg)⟩
  by_cases h0 : xs.length = 0
  · have hx : xs = [] := List.eq_nil_of_length_eq_zero h0
    subst hx
    cases A with
    | none =>
      refine (Tryz.slices_Clone_string_nil 0 c w).mono ?_
      rintro e w' ⟨rfl, rfl⟩
      exact ⟨_, rfl, ⟨OwnS.nil _ _, fun g hg => by cases hg⟩, Below.refl _ _⟩
    | some a =>
      refine (Tryz.slices_Clone_string_zero a c w).mono ?_
      rintro e w' ⟨v', rfl, h1, _, h2⟩
      exact ⟨_, rfl, hnew (xs := []) h1, h2⟩
  · obtain ⟨g, rfl⟩ := hA (by omega)
    refine (Tryz.slices_Clone_string g 0 xs.length c xs w (Nat.le_refl _) (by omega) ?_).mono ?_
    · intro j hj
      obtain ⟨ad, x, e, _, hcell, hx⟩ := hr.at_ (k := j) hj
      injection e with e
      subst e
      have hx' := hx.out
      have : (⟨g, 0 + j, none⟩ : Addr) = (⟨g, 0, none⟩ : Addr).add j := by unfold Addr.add; split <;> simp_all
      rw [this, hcell, List.getD_eq_getElem?_getD, hx']
      rfl
    · rintro e w' ⟨v', rfl, h1, _, h2⟩
      refine ⟨_, rfl, hnew ?_, h2⟩
      rw [List.take_of_length_le (Nat.le_refl _)] at h1
      exact h1
theorem countP_natI (x : Nat) : ∀ xs : List Nat, (natI xs).countP (fun y => decide (y < (x : Int))) = pos x xs := by
  intro xs
  unfold natI pos
  rw [List.countP_map]
  apply List.countP_congr
  intro y _
  simp
theorem contains_natI (x : Nat) (xs : List Nat) : (natI xs).contains (x : Int) = xs.contains x := by
  rw [Bool.eq_iff_iff]
  simp only [natI, List.contains_iff_mem, List.mem_map]
  constructor
  · rintro ⟨a, h, e⟩
    obtain rfl : a = x := by omega
    exact h
  · exact fun h => ⟨x, h, rfl⟩
theorem search_any {v : Value} {xs : List Nat} (h : OwnN w v xs) (hl : xs.length ≤ 1000000) (hs : xs.Pairwise (· < ·)) (x : Nat) :
    Calls Tryz.prog 217 #[v, .int .i64 (x : Int)] w fun e w' => e = .returned (.tuple #[.int .i64 (pos x xs : Nat), .bool (xs.contains x)]) ∧ ∃ q, w' = w.drewN q := by
  obtain ⟨A, c, rfl, hc, hm, hr, hA⟩ := ownN_form h
  by_cases h0 : xs.length = 0
  · have hx : xs = [] := List.eq_nil_of_length_eq_zero h0
    subst hx
    refine (Tryz.slices_BinarySearch_int_empty A c x w).mono ?_
    rintro e w' ⟨rfl, hw⟩
    exact ⟨rfl, by first | exact hw | exact ⟨0, hw⟩⟩
  · obtain ⟨g, rfl⟩ := hA (by omega)
    refine (Tryz.slices_BinarySearch_int g 0 xs.length c (natI xs) x w (by rw [natI_length]; exact Nat.le_refl _) (by omega) ?_ ?_).mono ?_
    · intro j hj
      obtain ⟨ad, x, e, _, hcell, hx⟩ := hr.at_ (k := j) (by rw [natI_length] at hj; exact hj)
      injection e with e
      subst e
      have hx' := hx.out
      have : (⟨g, 0 + j, none⟩ : Addr) = (⟨g, 0, none⟩ : Addr).add j := by unfold Addr.add; split <;> simp_all
      rw [this, hcell, List.getD_eq_getElem?_getD, hx']
      rfl
    · rw [List.take_of_length_le (by rw [natI_length]; exact Nat.le_refl _)]
      unfold natI
      rw [List.pairwise_map]
      exact hs.imp fun h => by omega
    · rintro e w' ⟨rfl, hq⟩
      rw [List.take_of_length_le (by rw [natI_length]; exact Nat.le_refl _), contains_natI, countP_natI]
      exact ⟨rfl, hq⟩
end
end Dr
end Go.Proofs.YtbgakdpbglpfaaaGreatDoor
-- the text DrE
namespace Go.Proofs.YtbgakdpbglpfaaaGreatDoor
open Go.RowKit
namespace Dr
set_option linter.unusedSimpArgs false
section
variable {w : World}
theorem info_chest : (Tryz.prog.info? 103).map (·.size) = some 6 := by kernel_rfl
theorem zero_chestA (w : World) : (zeroValue 103).run Tryz.prog w = .ok (.agg #[.slice none 0 0, .slice none 0 0, .bool false, .int .i64 0, .int .i64 0, .slice none 0 0]) w := zero_chest w
abbrev chestV (vs vk vo : Value) (c : Chest) : Array Value := #[vs, vk, .bool c.shut, .int .i64 (c.bought : Int), .int .i64 (c.eaten : Int), vo]
/-- what change keeps: where the drawer was, and a copy of it -/
structure Kept (w w' : World) (g g1 g2 : Nat) (vs vk vo : Value) (c : Chest) : Prop where
  be : Below w.heap.size w w'
  n1 : w.heap.size ≤ g1
  n2 : w.heap.size ≤ g2
  b1 : Blk w' g1 98 #[.pointer (some ⟨g, 0, none⟩)]
  b2 : Blk w' g2 103 (chestV vs vk vo c)
  sizes : NewN w w' vs c.sizes
  stock : NewN w w' vk c.stock
  out : NewT w w' vo c.out
  d1 : Apart vs vk
  d2 : Apart vs vo
  d3 : Apart vk vo
theorem wp_enterK {o : Oper} {a : Act} {w : World} {K : Act → World → Prop} {Q : Exit → Act → World → Prop} (f : FuncId) (args : Array Value) (hr : (execOp a.eval o).run Tryz.prog w = .ok (.enter f args) w) {R : Ending → World → Prop} (h : Calls Tryz.prog f args w R) (hk : ∀ e w', R e w' → ∃ v, e = .returned v ∧ K (a.put o.dst v) w') : o.wp Tryz.prog a w K Q :=
  De.wp_enter hr (h.mono hk)
theorem newN_later {w w' w'' : World} {v : Value} {xs : List Nat} (h : NewN w w' v xs) (hb : Below w'.heap.size w' w'') : NewN w w'' v xs := ⟨OwnI.callee h.1 hb, h.2⟩
theorem apart_new {w' : World} {v u : Value} (h1 : ∀ g, blkOf v = some g → g < w'.heap.size) (h2 : ∀ g, blkOf u = some g → w'.heap.size ≤ g) : Apart v u := fun g e1 e2 => by
  have := h1 g e1
  have := h2 g e2
  omega
set_option maxRecDepth 100000 in
theorem change_any {g : Nat} {vs vk vo : Value} {c : Chest} (hl1 : c.sizes.length ≤ 1000) (hl2 : c.stock.length ≤ 1000) (hl3 : c.out.length ≤ 1000) (H : ChestAt w (.pointer (some ⟨g, 0, none⟩)) vs vk vo c) :
    Calls Tryz.prog 209 #[.pointer (some ⟨g, 0, none⟩)] w fun e w' => ∃ g1 g2 ws wk wo, e = .returned (.func (.func 219) #[] #[.pointer (some ⟨g2, 0, none⟩), .pointer (some ⟨g1, 0, none⟩)]) ∧ Kept w w' g g1 g2 ws wk wo c := by
  obtain ⟨⟨g', hg, hB⟩, hs, hk, ho⟩ := H
  obtain rfl : g = g' := by injection hg with h; injection h with h; injection h
  have HS := Lib.hid hs
  have HK := Lib.hid hk
  have HO := Lib.hid ho
  have hgl := hB.lt
  have hone : Hid ((chestV vs vk vo c).all (·.oneCell') = true) := by
    obtain ⟨A1, c1, e1, _⟩ := ownN_form hs
    obtain ⟨A2, c2, e2, _⟩ := ownN_form hk
    obtain ⟨A3, c3, e3, _⟩ := ownS_form ho
    rw [Hid, e1, e2, e3]
    simp [Value.oneCell']
  clear hg hs hk ho
  go_enter Tryz.func209, Tryz.ntmps209
  go_wp2_with (first
    | (with_reducible show wpList _ _ _ (⟨_, .box 98 _, _, _, _, _⟩ :: _) _ _
       refine wpList_box_cells rfl 98 _ rfl (.pointer (some ⟨g, 0, none⟩)) #[.pointer (some ⟨g, 0, none⟩)] rfl rfl ?_
       intro w1 g1 hG1 hgr1 hge1
       have hB1 := hB.none_ hgr1
       have d1 : w1.cell? ⟨g1, 0, none⟩ = some (.pointer (some ⟨g, 0, none⟩)) := hG1.at_ 0 rfl)
    | (with_reducible show wpList _ _ _ (⟨_, .load 103 _, _, _, _, _⟩ :: _) _ _
       refine wpList_load_blk rfl 103 _ rfl g rfl 103 _ _ hB1 Tryz.underlying103 rfl info_chest ?_)
    | (with_reducible show wpList _ _ _ (⟨_, .alloc 103, _, _, _, _⟩ :: _) _ _
       refine wpList_alloc_blk rfl 103 rfl _ zero_chestA ?_
       intro w2 g2 hG2 hgr2 hge2
       have hB2 := hB1.none_ hgr2
       have hG12 := hG1.none_ hgr2)
    | (with_reducible show wpList _ _ _ (⟨_, .store 103 _ _, _, _, _, _⟩ :: _) _ _
       refine wpList_store_blk rfl 103 _ _ rfl g2 _ rfl rfl 103 _ hG2 info_chest rfl hone.out ?_
       intro w3 hG3 hgr3))
  have hn12 : g1 ≠ g2 := fun e => by have := hG1.lt; omega
  have hz1 := (below_grown hgr1).size
  have hz2 := (below_grown hgr2).size
  have hg2n : w.heap.size ≤ g2 := Nat.le_trans hz1 hge2
  have hngg : g ≠ g2 := by omega
  have HB1 : Hid (Blk w3 g1 98 #[.pointer (some ⟨g, 0, none⟩)]) := hG12.some_ hgr3 hn12
  have HB : Hid (Blk w3 g 103 (chestV vs vk vo c)) := hB2.some_ hgr3 hngg
  have hbe : Below w.heap.size w w3 := below_some (below_none (below_none (Below.refl _ _) hgr1 (Nat.le_refl _)) hgr2 hz1) hgr3 (Nat.le_trans hz1 hz2) hg2n
  have HBE := Lib.hid hbe
  have HG3 := Lib.hid hG3
  have HS3 : Hid (OwnN w3 vs c.sizes) := OwnI.callee HS.out hbe
  have HK3 : Hid (OwnN w3 vk c.stock) := OwnI.callee HK.out hbe
  have HO3 : Hid (OwnT w3 vo c.out) := OwnS.callee HO.out hbe
  have hn1 := hge1
  clear hB hB1 hB2 hG1 hG12 hG2 hG3 hgr1 hgr2 hgr3 d1 hbe HS HK HO hgl
  have KK : ∀ {w' : World}, Below w3.heap.size w3 w' → Blk w' g1 98 #[.pointer (some ⟨g, 0, none⟩)] ∧ Blk w' g 103 (chestV vs vk vo c) := fun hb => ⟨HB1.out.callee hb, HB.out.callee hb⟩
  have KF : ∀ {w' : World}, Blk w' g1 98 #[.pointer (some ⟨g, 0, none⟩)] ∧ Blk w' g 103 (chestV vs vk vo c) → w'.cell? ⟨g1, 0, none⟩ = some (.pointer (some ⟨g, 0, none⟩)) ∧ w'.cell? ⟨g, 0, none⟩ = some vs ∧ w'.cell? ⟨g, 1, none⟩ = some vk ∧ w'.cell? ⟨g, 5, none⟩ = some vo := fun h => ⟨h.1.at_ 0 rfl, h.2.at_ 0 rfl, h.2.at_ 1 rfl, h.2.at_ 5 rfl⟩
  have HKK := Lib.hid (fun w' => @KK w')
  have HKF := Lib.hid (fun w' => @KF w')
  clear KK KF
  refine De.region_chain (fun w' => w'.cell? ⟨g1, 0, none⟩ = some (.pointer (some ⟨g, 0, none⟩)) ∧ w'.cell? ⟨g, 0, none⟩ = some vs ∧ w'.cell? ⟨g, 1, none⟩ = some vk ∧ w'.cell? ⟨g, 5, none⟩ = some vo) (fun w' => w' = w3.drew) 4 20 [9, 14, 16, 18, 20] rfl (by kernel_rfl) (by kernel_rfl) (fun w' hw' => ?ji1) rfl ?rd1
  case ji1 => (subst hw'; exact HKF.out _ (HKK.out _ (Below.refl _ _).drew))
  refine De.Rd.read (o := ?o2) (v := ?v2) 0 (by decide) ?q2 (by kernel_rfl) (by kernel_rfl) (by kernel_rfl) ?w2 ?y2 ?h2
  case q2 => (simp only [De.g0, De.g1, De.g2]; rfl)
  case w2 => kernel_rfl
  case y2 => (intro w' hw'; obtain ⟨x1, x2, x3, x4⟩ := hw'; go_simp; (try with_reducible rfl))
  (try simp only [Act.put, De.l0, De.l1, De.l2])
  refine De.Rd.read (o := ?o3) (v := ?v3) 1 (by decide) ?q3 (by kernel_rfl) (by kernel_rfl) (by kernel_rfl) ?w3 ?y3 ?h3
  case q3 => (simp only [De.g0, De.g1, De.g2]; rfl)
  case w3 => kernel_rfl
  case y3 => (intro w' hw'; obtain ⟨x1, x2, x3, x4⟩ := hw'; go_simp; (try with_reducible rfl))
  (try simp only [Act.put, De.l0, De.l1, De.l2])
  refine De.Rd.read (o := ?o4) (v := ?v4) 2 (by decide) ?q4 (by kernel_rfl) (by kernel_rfl) (by kernel_rfl) ?w4 ?y4 ?h4
  case q4 => (simp only [De.g0, De.g1, De.g2]; rfl)
  case w4 => kernel_rfl
  case y4 => (intro w' hw'; obtain ⟨x1, x2, x3, x4⟩ := hw'; go_simp; (try with_reducible rfl))
  (try simp only [Act.put, De.l0, De.l1, De.l2])
  refine De.Rd.read (o := ?o5) (v := ?v5) 3 (by decide) ?q5 (by kernel_rfl) (by kernel_rfl) (by kernel_rfl) ?w5 ?y5 ?h5
  case q5 => (simp only [De.g0, De.g1, De.g2]; rfl)
  case w5 => kernel_rfl
  case y5 => (intro w' hw'; obtain ⟨x1, x2, x3, x4⟩ := hw'; go_simp; (try with_reducible rfl))
  (try simp only [Act.put, De.l0, De.l1, De.l2])
  refine De.Rd.read (o := ?o6) (v := ?v6) 5 (by decide) ?q6 (by kernel_rfl) (by kernel_rfl) (by kernel_rfl) ?w6 ?y6 ?h6
  case q6 => (simp only [De.g0, De.g1, De.g2]; rfl)
  case w6 => kernel_rfl
  case y6 => (intro w' hw'; obtain ⟨x1, x2, x3, x4⟩ := hw'; go_simp; (try with_reducible rfl))
  (try simp only [Act.put, De.l0, De.l1, De.l2])
  refine De.Rd.read (o := ?o7) (v := ?v7) 6 (by decide) ?q7 (by kernel_rfl) (by kernel_rfl) (by kernel_rfl) ?w7 ?y7 ?h7
  case q7 => (simp only [De.g0, De.g1, De.g2]; rfl)
  case w7 => kernel_rfl
  case y7 => (intro w' hw'; obtain ⟨x1, x2, x3, x4⟩ := hw'; go_simp; (try with_reducible rfl))
  (try simp only [Act.put, De.l0, De.l1, De.l2])
  refine De.Rd.read (o := ?o8) (v := ?v8) 7 (by decide) ?q8 (by kernel_rfl) (by kernel_rfl) (by kernel_rfl) ?w8 ?y8 ?h8
  case q8 => (simp only [De.g0, De.g1, De.g2]; rfl)
  case w8 => kernel_rfl
  case y8 => (intro w' hw'; obtain ⟨x1, x2, x3, x4⟩ := hw'; go_simp; (try with_reducible rfl))
  (try simp only [Act.put, De.l0, De.l1, De.l2])
  refine De.Rd.read (o := ?o9) (v := ?v9) 8 (by decide) ?q9 (by kernel_rfl) (by kernel_rfl) (by kernel_rfl) ?w9 ?y9 ?h9
  case q9 => (simp only [De.g0, De.g1, De.g2]; rfl)
  case w9 => kernel_rfl
  case y9 => (intro w' hw'; obtain ⟨x1, x2, x3, x4⟩ := hw'; go_simp; (try with_reducible rfl))
  (try simp only [Act.put, De.l0, De.l1, De.l2])
  refine De.Rd.read (o := ?o10) (v := ?v10) 10 (by decide) ?q10 (by kernel_rfl) (by kernel_rfl) (by kernel_rfl) ?w10 ?y10 ?h10
  case q10 => (simp only [De.g0, De.g1, De.g2]; rfl)
  case w10 => kernel_rfl
  case y10 => (intro w' hw'; obtain ⟨x1, x2, x3, x4⟩ := hw'; go_simp; (try with_reducible rfl))
  (try simp only [Act.put, De.l0, De.l1, De.l2])
  refine De.Rd.read (o := ?o11) (v := ?v11) 11 (by decide) ?q11 (by kernel_rfl) (by kernel_rfl) (by kernel_rfl) ?w11 ?y11 ?h11
  case q11 => (simp only [De.g0, De.g1, De.g2]; rfl)
  case w11 => kernel_rfl
  case y11 => (intro w' hw'; obtain ⟨x1, x2, x3, x4⟩ := hw'; go_simp; (try with_reducible rfl))
  (try simp only [Act.put, De.l0, De.l1, De.l2])
  refine De.Rd.read (o := ?o12) (v := ?v12) 12 (by decide) ?q12 (by kernel_rfl) (by kernel_rfl) (by kernel_rfl) ?w12 ?y12 ?h12
  case q12 => (simp only [De.g0, De.g1, De.g2]; rfl)
  case w12 => kernel_rfl
  case y12 => (intro w' hw'; obtain ⟨x1, x2, x3, x4⟩ := hw'; go_simp; (try with_reducible rfl))
  (try simp only [Act.put, De.l0, De.l1, De.l2])
  refine De.Rd.read (o := ?o13) (v := ?v13) 13 (by decide) ?q13 (by kernel_rfl) (by kernel_rfl) (by kernel_rfl) ?w13 ?y13 ?h13
  case q13 => (simp only [De.g0, De.g1, De.g2]; rfl)
  case w13 => kernel_rfl
  case y13 => (intro w' hw'; obtain ⟨x1, x2, x3, x4⟩ := hw'; go_simp; (try with_reducible rfl))
  (try simp only [Act.put, De.l0, De.l1, De.l2])
  refine De.Rd.tail (fun w' hw' => ?_)
  subst hw'
  (try simp only [Act.put, De.l0, De.l1, De.l2])
  (try refine De.MidP.tail ?_)
  refine De.Tl.write (o := ?o14) (by kernel_rfl) ?q14 ?g14 ?h14
  case q14 => (simp only [De.g0, De.g1, De.g2]; rfl)
  case g14 => rfl
  refine wp_enterK 77 #[vs] (by go_simp) (cloneI_any (OwnI.drew HS3.out) (by omega)) ?_
  rintro e w4 ⟨v4, rfl, hN4, hb4⟩
  have hbb4 : Below w3.heap.size w3 w4 := (Below.refl _ _).drew.trans hb4
  refine ⟨v4, rfl, ⟨_, rfl⟩, fun _ => HKF.out _ (HKK.out _ hbb4), ?_⟩
  (try simp only [Act.put, De.l0, De.l1, De.l2])
  refine De.Mid.read (o := ?o15) (v := ?v15) 15 ?q15 (by kernel_rfl) (by kernel_rfl) (by kernel_rfl) ?w15 ?y15 ?h15
  case q15 => (simp only [De.g0, De.g1, De.g2]; rfl)
  case w15 => kernel_rfl
  case y15 => (intro w' hw'; obtain ⟨x1, x2, x3, x4⟩ := hw'; go_simp; (try with_reducible rfl))
  (try simp only [Act.put, De.l0, De.l1, De.l2])
  (try refine De.MidP.tail ?_)
  refine De.Tl.write (o := ?o16) (by kernel_rfl) ?q16 ?g16 ?h16
  case q16 => (simp only [De.g0, De.g1, De.g2]; rfl)
  case g16 => rfl
  refine wp_enterK 77 #[vk] (by go_simp) (cloneI_any (OwnI.callee HK3.out hbb4) (by omega)) ?_
  rintro e w5 ⟨v5, rfl, hN5, hb5⟩
  have hbb5 := hbb4.trans (hb5.mono hbb4.size)
  refine ⟨v5, rfl, ⟨_, rfl⟩, fun _ => HKF.out _ (HKK.out _ hbb5), ?_⟩
  (try simp only [Act.put, De.l0, De.l1, De.l2])
  (try refine De.MidP.tail ?_)
  refine De.Tl.write (o := ?o17) (by kernel_rfl) ?q17 ?g17 ?h17
  case q17 => (simp only [De.g0, De.g1, De.g2]; rfl)
  case g17 => rfl
  refine wp_enterK 61 #[vo] (by go_simp) (cloneS_any (OwnS.callee HO3.out hbb5) (by omega)) ?_
  rintro e w6 ⟨v6, rfl, hN6, hb6⟩
  have hbb6 := hbb5.trans (hb6.mono hbb5.size)
  refine ⟨v6, rfl, ⟨_, rfl⟩, fun _ => HKF.out _ (HKK.out _ hbb6), ?_⟩
  have hB6 := HG3.out.callee hbb6
  have hK6 := HKK.out _ hbb6
  have hD4 := newN_later (newN_later hN4 hb5) hb6
  have hD5 := newN_later hN5 hb6
  have z4 := hb4.size
  have z5 := hb5.size
  have a45 : Apart v4 v5 := apart_new (fun g hg => ownI_lt hN4.1 hg) hN5.2
  have a46 : Apart v4 v6 := apart_new (fun g hg => ownI_lt (newN_later hN4 hb5).1 hg) hN6.2
  have a56 : Apart v5 v6 := apart_new (fun g hg => ownI_lt hN5.1 hg) hN6.2
  have hlt2 := HG3.out.lt
  have nb : ∀ {v : Value}, (∀ g, blkOf v = some g → w3.heap.size ≤ g) → ∀ k, blkOf v = some k → k ≠ g2 := fun h k hk e => by
    have := h k hk
    omega
  have s4 : ∀ k, blkOf v4 = some k → k ≠ g2 := nb (fun g hg => hN4.2 g hg)
  have s5 : ∀ k, blkOf v5 = some k → k ≠ g2 := nb (fun g hg => Nat.le_trans (by exact z4) (hN5.2 g hg))
  have s6 : ∀ k, blkOf v6 = some k → k ≠ g2 := nb (fun g hg => Nat.le_trans (Nat.le_trans (by exact z4) z5) (hN6.2 g hg))
  have st : ∀ (i : Nat) (u : Value) (W : World) (k : Nat), k ≠ g2 → (W.setCell ⟨g2, i, none⟩ u).heap[k]? = W.heap[k]? := fun i u W k hk => Below.heap_setCell W ⟨g2, i, none⟩ u k hk
  have n1g : g1 ≠ g2 := hn12
  have HF := Lib.hid (And.intro hbb6 (And.intro hD4 (And.intro hD5 (And.intro hN6 (And.intro a45 (And.intro a46 (And.intro a56 (And.intro s4 (And.intro s5 (And.intro s6 (And.intro z4 z5)))))))))))
  clear hD4 hD5 a45 a46 a56 s4 s5 s6 nb
  obtain ⟨A4, c4, e4, _⟩ := ownN_form hN4.1
  obtain ⟨A5, c5, e5, _⟩ := ownN_form hN5.1
  obtain ⟨A6, c6, e6, _⟩ := ownS_form hN6.1
  subst e4 e5 e6
  clear hN4 hN5 hN6 hb4 hb5 hb6 hbb4 hbb5 hbb6 z4 z5
  have c60 : w6.cell? ⟨g2, 0, none⟩ = some vs := hB6.at_ 0 rfl
  have f60 := hB6.frozen 0
  (try simp only [Act.put, De.l0, De.l1, De.l2])
  (try refine De.MidP.tail ?_)
  refine De.Tl.write (o := ?o18) (by kernel_rfl) ?q18 ?g18 ?h18
  case q18 => (simp only [De.g0, De.g1, De.g2]; rfl)
  case g18 => rfl
  refine wp_setcell 40 _ _ rfl g2 0 (.slice A4 c.sizes.length c4) rfl rfl (by go_simp) ?_
  obtain ⟨w7, hw7⟩ : ∃ x, x = w6.setCell ⟨g2, 0, none⟩ (.slice A4 c.sizes.length c4) := ⟨_, rfl⟩
  rw [← hw7]
  have hB7 : Blk w7 g2 103 (chestV (.slice A4 c.sizes.length c4) vk vo c) := by rw [hw7]; exact hB6.set_ 0 _
  have st7 : ∀ k, k ≠ g2 → w7.heap[k]? = w6.heap[k]? := fun k hk => by rw [hw7]; exact st 0 _ w6 k hk
  have hx7 : w7.os = w6.os ∧ w7.tape = w6.tape ∧ w7.output = w6.output ∧ w7.heap.size = w6.heap.size := by rw [hw7]; exact ⟨rfl, rfl, rfl, by simp⟩
  clear hw7 c60 f60
  have hK7 : Blk w7 g1 98 #[.pointer (some ⟨g, 0, none⟩)] ∧ Blk w7 g 103 (chestV vs vk vo c) := ⟨(st7 g1 n1g).trans hK6.1, (st7 g hngg).trans hK6.2⟩
  refine ⟨⟨_, rfl⟩, fun _ => HKF.out _ hK7, ?_⟩
  (try simp only [Act.put, De.l0, De.l1, De.l2])
  refine De.Mid.read (o := ?o19) (v := ?v19) 17 ?q19 (by kernel_rfl) (by kernel_rfl) (by kernel_rfl) ?w19 ?y19 ?h19
  case q19 => (simp only [De.g0, De.g1, De.g2]; rfl)
  case w19 => kernel_rfl
  case y19 => (intro w' hw'; obtain ⟨x1, x2, x3, x4⟩ := hw'; go_simp; (try with_reducible rfl))
  (try simp only [Act.put, De.l0, De.l1, De.l2])
  have c71 : w7.cell? ⟨g2, 1, none⟩ = some vk := hB7.at_ 1 rfl
  have f71 := hB7.frozen 1
  (try simp only [Act.put, De.l0, De.l1, De.l2])
  (try refine De.MidP.tail ?_)
  refine De.Tl.write (o := ?o20) (by kernel_rfl) ?q20 ?g20 ?h20
  case q20 => (simp only [De.g0, De.g1, De.g2]; rfl)
  case g20 => rfl
  refine wp_setcell 40 _ _ rfl g2 1 (.slice A5 c.stock.length c5) rfl rfl (by go_simp) ?_
  obtain ⟨w8, hw8⟩ : ∃ x, x = w7.setCell ⟨g2, 1, none⟩ (.slice A5 c.stock.length c5) := ⟨_, rfl⟩
  rw [← hw8]
  have hB8 : Blk w8 g2 103 (chestV (.slice A4 c.sizes.length c4) (.slice A5 c.stock.length c5) vo c) := by rw [hw8]; exact hB7.set_ 1 _
  have st8 : ∀ k, k ≠ g2 → w8.heap[k]? = w6.heap[k]? := fun k hk => by rw [hw8]; exact (st 1 _ w7 k hk).trans (st7 k hk)
  have hx8 : w8.os = w6.os ∧ w8.tape = w6.tape ∧ w8.output = w6.output ∧ w8.heap.size = w6.heap.size := by rw [hw8]; exact ⟨hx7.1, hx7.2.1, hx7.2.2.1, by simpa using hx7.2.2.2⟩
  clear hw8 c71 f71
  have hK8 : Blk w8 g1 98 #[.pointer (some ⟨g, 0, none⟩)] ∧ Blk w8 g 103 (chestV vs vk vo c) := ⟨(st8 g1 n1g).trans hK6.1, (st8 g hngg).trans hK6.2⟩
  refine ⟨⟨_, rfl⟩, fun _ => HKF.out _ hK8, ?_⟩
  (try simp only [Act.put, De.l0, De.l1, De.l2])
  refine De.Mid.read (o := ?o21) (v := ?v21) 19 ?q21 (by kernel_rfl) (by kernel_rfl) (by kernel_rfl) ?w21 ?y21 ?h21
  case q21 => (simp only [De.g0, De.g1, De.g2]; rfl)
  case w21 => kernel_rfl
  case y21 => (intro w' hw'; obtain ⟨x1, x2, x3, x4⟩ := hw'; go_simp; (try with_reducible rfl))
  (try simp only [Act.put, De.l0, De.l1, De.l2])
  have c85 : w8.cell? ⟨g2, 5, none⟩ = some vo := hB8.at_ 5 rfl
  have f85 := hB8.frozen 5
  (try simp only [Act.put, De.l0, De.l1, De.l2])
  (try refine De.MidP.tail ?_)
  refine De.Tl.write (o := ?o22) (by kernel_rfl) ?q22 ?g22 ?h22
  case q22 => (simp only [De.g0, De.g1, De.g2]; rfl)
  case g22 => rfl
  refine wp_setcell 22 _ _ rfl g2 5 (.slice A6 c.out.length c6) rfl rfl (by go_simp) ?_
  obtain ⟨w9, hw9⟩ : ∃ x, x = w8.setCell ⟨g2, 5, none⟩ (.slice A6 c.out.length c6) := ⟨_, rfl⟩
  rw [← hw9]
  have hB9 : Blk w9 g2 103 (chestV (.slice A4 c.sizes.length c4) (.slice A5 c.stock.length c5) (.slice A6 c.out.length c6) c) := by rw [hw9]; exact hB8.set_ 5 _
  have st9 : ∀ k, k ≠ g2 → w9.heap[k]? = w6.heap[k]? := fun k hk => by rw [hw9]; exact (st 5 _ w8 k hk).trans (st8 k hk)
  have hx9 : w9.os = w6.os ∧ w9.tape = w6.tape ∧ w9.output = w6.output ∧ w9.heap.size = w6.heap.size := by rw [hw9]; exact ⟨hx8.1, hx8.2.1, hx8.2.2.1, by simpa using hx8.2.2.2⟩
  clear hw9 c85 f85
  refine ⟨⟨_, rfl⟩, fun h => absurd rfl h, ?_⟩
  (try refine De.MidP.tail ?_)
  refine De.Tl.done (by kernel_rfl) ?_
  (try simp only [Act.put, De.l0, De.l1, De.l2])
  obtain ⟨hbb6, hD4, hD5, hN6, a45, a46, a56, s4, s5, s6, z4, z5⟩ := HF.out
  have HFIN : Hid (Kept w w9 g g1 g2 (.slice A4 c.sizes.length c4) (.slice A5 c.stock.length c5) (.slice A6 c.out.length c6) c) := by
    have hbw : Below w.heap.size w w6 := HBE.out.trans (hbb6.mono HBE.out.size)
    have q3 : w.heap.size ≤ w3.heap.size := HBE.out.size
    refine ⟨⟨hx9.1.trans hbw.os, hx9.2.1.trans hbw.tape, hx9.2.2.1.trans hbw.output, by rw [hx9.2.2.2]; exact hbw.size, fun k hk => (st9 k (by omega)).trans (hbw.block k hk)⟩, hn1, hg2n, (st9 g1 n1g).trans hK6.1, hB9, ⟨OwnI.same hD4.1 fun k hk => st9 k (s4 k hk), fun k hk => Nat.le_trans q3 (hD4.2 k hk)⟩,
      ⟨OwnI.same hD5.1 fun k hk => st9 k (s5 k hk), fun k hk => Nat.le_trans q3 (Nat.le_trans z4 (hD5.2 k hk))⟩, ⟨OwnS.same hN6.1 fun k hk => st9 k (s6 k hk), fun k hk => Nat.le_trans q3 (Nat.le_trans (Nat.le_trans z4 z5) (hN6.2 k hk))⟩, a45, a46, a56⟩
  clear HF hbb6 hD4 hD5 hN6 a45 a46 a56 s4 s5 s6 z4 z5 hx9 hx8 hx7 st9 st8 st7 st hB9 hB8 hB7 hB6 hK6 hK7 hK8
  go_wp2_with (fail)
  go_ret
  exact ⟨_, _, _, _, _, rfl, HFIN.out⟩
set_option maxRecDepth 100000 in
/-- .. and back -/
theorem change_back {g g1 g2 : Nat} {vs vk vo : Value} {c : Chest} {old : Array Value} (h1 : Blk w g1 98 #[.pointer (some ⟨g, 0, none⟩)]) (h2 : Blk w g2 103 (chestV vs vk vo c)) (h3 : Blk w g 103 old) (ho : old.size = 6)
    (hone : (chestV vs vk vo c).all (·.oneCell') = true) :
    Calls Tryz.prog 219 #[.pointer (some ⟨g2, 0, none⟩), .pointer (some ⟨g1, 0, none⟩)] w fun e w' => e = .returned (.tuple #[]) ∧ Blk w' g 103 (chestV vs vk vo c) ∧ w.grownBy w' (some g) := by
  have d1 : w.cell? ⟨g1, 0, none⟩ = some (.pointer (some ⟨g, 0, none⟩)) := h1.at_ 0 rfl
  have HO := Lib.hid ho
  have H1 := Lib.hid hone
  clear ho hone
  go_enter Tryz.func219, Tryz.ntmps219
  go_wp2_with (first
    | (with_reducible show wpList _ _ _ (⟨_, .load 103 _, _, _, _, _⟩ :: _) _ _
       refine wpList_load_blk rfl 103 _ rfl g2 rfl 103 _ _ h2 Tryz.underlying103 rfl info_chest ?_)
    | (with_reducible show wpList _ _ _ (⟨_, .store 103 _ _, _, _, _, _⟩ :: _) _ _
       refine wpList_store_blk rfl 103 _ _ rfl g (chestV vs vk vo c) rfl rfl 103 old h3 info_chest HO.out H1.out ?_
       intro w3 hG3 hgr3))
  go_end0
  exact ⟨rfl, hG3, hgr3⟩
end
end Dr
end Go.Proofs.YtbgakdpbglpfaaaGreatDoor
