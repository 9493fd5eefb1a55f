/- The texts DrV to DrX, joined by joinlist.py: their statements say what each proves. -/
import Derived.Test.YtbgakdpbglpfaaaGreatDoorDrU
import Derived.Test.YtbgakdpbglpfaaaGreatDoorJpl
import Derived.Test.YtbgakdpbglpfaaaGreatDoorJpk
import Derived.Laws.CopyOwn
-- the text DrV
namespace Go.Proofs.YtbgakdpbglpfaaaGreatDoor
open Go.RowKit
namespace Dr
open Pk (stC zero_store info_store stC_one)
open Bu (natI)
set_option linter.unusedSimpArgs false
theorem check_none (A : Option Addr) (c : Nat) (w : World) : Calls Tryz.prog 137 #[.slice A 0 c] w fun e w' => e = .returned (.int .i64 4) ∧ w' = w := by
  go_enter Tryz.func137, Tryz.ntmps137
  go_wp2_with (fail)
  go_ret
  exact ⟨rfl, rfl⟩
set_option maxRecDepth 100000 in
theorem stocked_none (A : Option Addr) (c : Nat) (v : Value) (w : World) : Calls Tryz.prog 101 #[.slice A 0 c, v] w fun e w' => e = .returned (.tuple #[.agg (stC none 0 0 none 0 0), .int .i64 4]) ∧ Below w.heap.size w w' := by
  have hck := Lib.hid (fun w' => check_none A c w')
  go_enter Tryz.func101, Tryz.ntmps101
  go_wp2_with (first
    | (with_reducible show wpList _ _ _ (⟨_, .alloc 152, _, _, _, _⟩ :: _) _ _
       refine wpList_alloc_blk rfl 152 rfl _ zero_store ?_
       intro w3 g hG hgr hge
       have hb3 := below_none (Below.refl w.heap.size w) hgr (Nat.le_refl _))
    | (go_at_call 137; (with_reducible refine (hck.out _).mono ?_); rintro e wz ⟨rfl, hwz⟩; replace hwz := hwz.symm; subst hwz)
    | (with_reducible show wpList _ _ _ (⟨_, .store 152 (.tmp 4) _, _, _, _, _⟩ :: _) _ _
       refine wpList_store_blk rfl 152 _ _ rfl g (stC none 0 0 none 0 0) rfl rfl 152 _ hG (info_store _ _ _ _ _ _) rfl (stC_one _ _ _ _ _ _) ?_
       intro w5 hG5 hgr5
       have hb5 := below_some hb3 hgr5 hb3.size hge))
  exact bodyPost_ret (results_cell_tmp rfl _ _ g 152 _ (0, 0) _ rfl hG5 Tryz.underlying152 rfl (info_store _ _ _ _ _ _)) rfl ⟨rfl, hb5⟩
set_option maxRecDepth 100000 in
theorem ordered_none (A : Option Addr) (c : Nat) (v : Value) (N : Int) (w : World) : Calls Tryz.prog 104 #[.slice A 0 c, v, .int .i64 N] w fun e w' => e = .returned (.tuple #[.agg (stC none 0 0 none 0 0), .int .i64 4]) ∧ Below w.heap.size w w' := by
  have hst := Lib.hid (fun w' => stocked_none A c v w')
  obtain ⟨T, hT⟩ : ∃ T, stC none 0 0 none 0 0 = T := ⟨_, rfl⟩
  have hT1 : T.all (·.oneCell') = true := by rw [← hT]; exact stC_one _ _ _ _ _ _
  have hT2 : (Tryz.prog.info? 152).map (·.size) = some T.size := by rw [← hT]; exact info_store _ _ _ _ _ _
  have hT3 : (stC none 0 0 none 0 0).size = T.size := by rw [← hT]
  rw [hT] at hst ⊢
  clear hT
  go_enter Tryz.func104, Tryz.ntmps104
  go_wp2_with (first
    | (with_reducible show wpList _ _ _ (⟨some 6, .alloc 152, _, _, _, _⟩ :: _) _ _
       refine wpList_alloc_blk rfl 152 rfl _ zero_store ?_
       intro w3 g hG hgr hge
       have hb3 := below_none (Below.refl w.heap.size w) hgr (Nat.le_refl _))
    | (go_at_call 101; (with_reducible refine (hst.out _).mono ?_); rintro e w4 ⟨rfl, hb4⟩
       have hG4 := hG.callee hb4
       replace hb4 := hb3.trans (hb4.mono hb3.size))
    | (with_reducible show wpList _ _ _ (⟨some 8, .alloc 152, _, _, _, _⟩ :: _) _ _
       refine wpList_alloc_blk rfl 152 rfl _ zero_store ?_
       intro w5 g8 hK hgr5 hge8
       have hb5 := below_none hb4 hgr5 hb4.size
       have hG5 := hG4.none_ hgr5
       have hgk : g8 ≠ g := by have := hG4.lt; omega)
    | (with_reducible show wpList _ _ _ (⟨_, .store 152 (.tmp 8) _, _, _, _, _⟩ :: _) _ _
       refine wpList_store_blk rfl 152 _ _ rfl g8 T rfl rfl 152 _ hK hT2 hT3 hT1 ?_
       intro w6 hK6 hgr6
       have hb6 := below_some hb5 hgr6 hb5.size (by have := hb4.size; omega)
       have hG6 := hG5.some_ hgr6 hgk.symm)
    | (with_reducible show wpList _ _ _ (⟨some 23, .load 152 (.tmp 8), _, _, _, _⟩ :: _) _ _
       refine wpList_load_blk rfl 152 _ rfl g8 rfl 152 T _ hK6 Tryz.underlying152 rfl hT2 ?_)
    | (with_reducible show wpList _ _ _ (⟨_, .store 152 (.tmp 6) _, _, _, _, _⟩ :: _) _ _
       refine wpList_store_blk rfl 152 _ _ rfl g T rfl rfl 152 _ hG6 hT2 hT3 hT1 ?_
       intro w7 hG7 hgr7
       have hb7 := below_some hb6 hgr7 hb6.size hge))
  exact bodyPost_ret (results_cell_tmp rfl _ _ g 152 _ (0, 0) _ rfl hG7 Tryz.underlying152 rfl hT2) rfl ⟨rfl, hb7⟩
set_option maxHeartbeats 400000 in
theorem fill_none (A : Option Addr) (c : Nat) (v : Value) (N : Int) (w : World) : Calls Tryz.prog 230 #[.slice A 0 c, v, .int .i64 N] w fun e w' => e = .returned (.tuple #[.slice none 0 0, .int .i64 4]) ∧ Below w.heap.size w w' := by
  have hor := Lib.hid (ordered_none A c v N w)
  obtain ⟨T, hT⟩ : ∃ T, stC none 0 0 none 0 0 = T := ⟨_, rfl⟩
  have hTs : (stC none 0 0 none 0 0).size = T.size := by rw [← hT]
  rw [hT] at hor
  have hone : T.all (·.oneCell') = true := by rw [← hT]; exact stC_one _ _ _ _ _ _
  have hinf : (Tryz.prog.info? 152).map (·.size) = some T.size := by rw [← hT]; exact info_store _ _ _ _ _ _
  clear hT
  go_enter Tryz.func230, Tryz.ntmps230
  go_wp2_with (first
    | (go_at_call 104; (with_reducible refine hor.out.mono ?_); rintro e w2 ⟨rfl, hb2⟩)
    | (with_reducible show wpList _ _ _ (⟨_, .alloc 152, _, _, _, _⟩ :: _) _ _
       refine wpList_alloc_blk rfl 152 rfl _ zero_store ?_
       intro w3 g hG hgr hge
       have hb3 := below_none hb2 hgr hb2.size)
    | (with_reducible show wpList _ _ _ (⟨_, .store 152 (.tmp 8) _, _, _, _, _⟩ :: _) _ _
       refine wpList_store_blk rfl 152 _ _ rfl g T rfl rfl 152 _ hG hinf hTs hone ?_
       intro w5 hG5 hgr5
       have hb5 := below_some hb3 hgr5 hb3.size (Nat.le_trans hb2.size hge)))
  go_ret2
  exact ⟨rfl, hb5⟩
set_option maxHeartbeats 400000 in
theorem fill_some (A : Option Addr) (n c : Nat) (b2 o2 c2 : Nat) (ss ms : List Nat) (hS : Pk.Stk ss ms) (N : Nat) (hN : N ≤ 1000) (w : World) (B : Nat) (hB : B ≤ w.heap.size) (hr : RInts w B A n (natI ss)) (hr2 : RInts w B (some ⟨b2, o2, none⟩) n (natI ms)) :
    Calls Tryz.prog 230 #[.slice A n c, .slice (some ⟨b2, o2, none⟩) n c2, .int .i64 (N : Int)] w fun e w' => (∃ v, e = .returned (.tuple #[v, .int .i64 (Pk.fillE N (Pk.prs ss ms))]) ∧ OwnI w' w.heap.size v (Pk.fillV N (Pk.prs ss ms))) ∧ Below w.heap.size w w' := by
  have hor := Lib.hid (Pk.ordered_ok A n c b2 o2 c2 ss ms hS N hN w B hB hr hr2)
  obtain ⟨T, hT⟩ : ∃ T, Pk.stC A n c (some ⟨b2, o2, none⟩) n c2 = T := ⟨_, rfl⟩
  have hfi := Lib.hid (fun w' (hb : Below w.heap.size w w') => Pk.fill_ok A n c (some ⟨b2, o2, none⟩) c2 ss ms hS N hN w' B (Nat.le_trans hB hb.size) (hr.later hB hb) (hr2.later hB hb))
  have hTs : (Pk.stC none 0 0 none 0 0).size = T.size := by rw [← hT]; rfl
  obtain ⟨E, hE⟩ : ∃ q, Pk.fillE N (Pk.prs ss ms) = q := ⟨_, rfl⟩
  obtain ⟨V, hV⟩ : ∃ q, Pk.fillV N (Pk.prs ss ms) = q := ⟨_, rfl⟩
  rw [hT] at hor hfi
  rw [hE, hV] at hfi ⊢
  have hone : T.all (·.oneCell') = true := by rw [← hT]; exact Pk.stC_one _ _ _ _ _ _
  have hinf : (Tryz.prog.info? 152).map (·.size) = some T.size := by rw [← hT]; exact Pk.info_store _ _ _ _ _ _
  clear hT hE hV
  go_enter Tryz.func230, Tryz.ntmps230
  go_wp2_with (first
    | (go_at_call 104; (with_reducible refine hor.out.mono ?_); rintro e w2 ⟨rfl, hb2⟩)
    | (with_reducible show wpList _ _ _ (⟨_, .alloc 152, _, _, _, _⟩ :: _) _ _
       refine wpList_alloc_blk rfl 152 rfl _ Pk.zero_store ?_
       intro w3 g hG hgr hge
       have hb3 := below_none hb2 hgr hb2.size)
    | (with_reducible show wpList _ _ _ (⟨_, .store 152 (.tmp 8) _, _, _, _, _⟩ :: _) _ _
       refine wpList_store_blk rfl 152 _ _ rfl g T rfl rfl 152 _ hG hinf hTs hone ?_
       intro w5 hG5 hgr5
       have hb5 := below_some hb3 hgr5 hb3.size (Nat.le_trans hb2.size hge))
    | (with_reducible show wpList _ _ _ (⟨_, .load 152 (.tmp 8), _, _, _, _⟩ :: _) _ _
       refine wpList_load_blk rfl 152 _ rfl g rfl 152 T _ hG5 Tryz.underlying152 rfl hinf ?_)
    | (go_at_call 233; (with_reducible refine (hfi.out _ hb5).mono ?_); rintro e w6 ⟨⟨v, rfl, hv⟩, hb6⟩))
  go_ret2
  exact ⟨⟨_, rfl, Pk.own_mono hv hb5.size⟩, hb5.trans (hb6.mono hb5.size)⟩
theorem takeN (n : Nat) : ∀ (l : List (Nat × Nat)) (x : Nat), natI ((takeL n l x).map Int.toNat) = takeL n l x ∧ (takeL n l x).length = l.length ∧ ∀ (i k : Nat) (p : Nat × Nat), ((takeL n l x).map Int.toNat)[i]? = some k → l[i]? = some p → k ≤ p.2
  | [], x => ⟨rfl, rfl, fun i k p h1 h2 => by simp at h2⟩
  | (s, m) :: l, x => by
    obtain ⟨h1, h2, h3⟩ := takeN n l (x - manyT (fewL n l) s m x * s)
    refine ⟨?_, ?_, fun i k p e1 e2 => ?_⟩
    · unfold natI at h1 ⊢
      simp only [takeL, List.map_cons]
      rw [h1]
      simp
    · simp only [takeL, List.length_cons, h2]
    · cases i with
      | zero =>
        simp [takeL] at e1 e2
        subst e1 e2
        have := bestT_le (costT (fewL n l) s x) (min m (x / s))
        show manyT (fewL n l) s m x ≤ m
        unfold manyT
        omega
      | succ i =>
        simp only [takeL, List.map_cons, List.getElem?_cons_succ] at e1 e2
        exact h3 i k p e1 e2
theorem fillP_some {ss ms l : List Nat} {n : Nat} (h : fillP ss ms n = some l) (hl : ms.length = ss.length) : l.length = ss.length ∧ ∀ (i k m : Nat), l[i]? = some k → ms[i]? = some m → k ≤ m := by
  unfold fillP at h
  split at h
  · cases h
  split at h
  · cases h
  injection h with h
  subst h
  obtain ⟨_, h2, h3⟩ := takeN n (ss.zip ms) n
  refine ⟨by rw [List.length_map, h2, List.length_zip, hl, Nat.min_self], fun i k m e1 e2 => ?_⟩
  obtain ⟨hi, _⟩ := List.getElem?_eq_some_iff.1 e2
  obtain ⟨s, hs⟩ : ∃ s, ss[i]? = some s := ⟨_, List.getElem?_eq_getElem (by omega)⟩
  exact h3 i k (s, m) e1 (by rw [List.getElem?_zip_eq_some]; exact ⟨hs, e2⟩)
theorem fill_any {w : World} {vs vk : Value} {c : Chest} (hc : ChestOk c) (h1 : OwnN w vs c.sizes) (h2 : OwnN w vk c.stock) (N : Nat) (hN : N ≤ 1000) :
    Calls Tryz.prog 230 #[vs, vk, .int .i64 (N : Int)] w fun e w' => (∃ v E, e = .returned (.tuple #[v, .int .i64 E]) ∧ (match fillP c.sizes c.stock N with
      | none => E ≠ 0
      | some l => E = 0 ∧ NewN w w' v l)) ∧ Below w.heap.size w w' := by
  obtain ⟨A, cs, rfl, _, _, hRA, _⟩ := ownN_form h1
  obtain ⟨A2, c2, rfl, _, _, hR2, hA2⟩ := ownN_form h2
  by_cases he : c.sizes = []
  · rw [he]
    refine (fill_none A cs _ N w).mono ?_
    rintro e w' ⟨rfl, hb⟩
    refine ⟨⟨_, _, rfl, ?_⟩, hb⟩
    simp [fillP]
  · have hpos : 0 < c.sizes.length := List.length_pos_iff.2 he
    have hlen := hc.len
    obtain ⟨g2, rfl⟩ := hA2 (by omega)
    have hS : Pk.Stk c.sizes c.stock := ⟨⟨hpos, hc.five, hc.rng, hc.srt⟩, hlen, hc.stk⟩
    rw [hlen] at hR2 ⊢
    refine (fill_some A _ cs g2 0 c2 c.sizes c.stock hS N hN w _ (Nat.le_refl _) hRA hR2).mono ?_
    rintro e w' ⟨⟨v, rfl, hv⟩, hb⟩
    refine ⟨⟨v, _, rfl, ?_⟩, hb⟩
    have hne : c.sizes.isEmpty = false := by simpa using he
    unfold fillP
    rw [hne]
    simp only [Bool.false_eq_true, if_false]
    unfold Pk.fillE Pk.fillV Pk.prs at *
    by_cases h : (fewL N (c.sizes.zip c.stock)).getD N 0 = 1001
    · rw [if_pos h, if_pos h]
      exact (by decide : (12 : Int) ≠ 0)
    · rw [if_neg h, if_neg h]
      rw [if_neg h] at hv
      refine ⟨rfl, ?_⟩
      have := new_of_row hv
      unfold NewN OwnN
      rw [(takeN N _ N).1]
      exact this
end Dr
end Go.Proofs.YtbgakdpbglpfaaaGreatDoor
-- the text DrW
namespace Go.Proofs.YtbgakdpbglpfaaaGreatDoor
open Go.RowKit
namespace Dr
set_option linter.unusedSimpArgs false
theorem zero_bool (w : World) : (zeroValue 4).run Tryz.prog w = .ok (.bool false) w := Tryz.zeroValue4 w
theorem zero_parcel (w : World) : (zeroValue 105).run Tryz.prog w = .ok (.agg #[.string ⟨#[]⟩, .slice none 0 0]) w := Tryz.zeroValue105 w
section
variable {w : World} {V : Vals} {S : House}
/-- the look-up of a name that was used -/
theorem HouseAt.lookU (H : HouseAt w V S) {w' : World} (h : ∀ g, Foot V g → w'.heap[g]? = w.heap[g]?) {g : Nat} (hg : V .used = .map (some g)) (o : ByteArray) :
    (Instr.lookup 109 (.map (some g)) (.string o) false).run Tryz.prog w' = .ok (.bool (hasB o S.used)) w' := by
  obtain ⟨g', h1, h2⟩ := H.mu
  obtain rfl : g' = g := by rw [hg] at h1; injection h1 with h1; injection h1 with h1; exact h1.symm
  have h3 := (h2.same (w' := w') (h g' ⟨.used, by rw [hg]; rfl⟩)).look Tryz.underlying109 Tryz.underlying9 (zero_bool w') o false
  rw [h3]
  cases hl : hasB o S.used <;> simp
set_option maxRecDepth 100000 in
theorem ordering_used (H : HouseAt w V S) (o d : ByteArray) (n : Nat) (hu : hasB o S.used = true) :
    Calls Tryz.prog 229 #[.agg #[.string o, .string d, .int .i64 (n : Int)], V .house] w (DoPost V S w (doP S (.order o d n))) := by
  obtain ⟨gh, hV, hB⟩ := H.hs
  obtain ⟨gu, hVu, _⟩ := H.mu
  have HLK : Hid (∀ (w' : World), Below w.heap.size w w' → (Instr.lookup 109 (.map (some gu)) (.string o) false).run Tryz.prog w' = .ok (.bool true) w') := fun w' hb => by
    have h := H.lookU (fun g hg => hb.block g (H.lt hg)) hVu o
    rw [hu] at h
    exact h
  have c1 : w.cell? ⟨gh, 3, none⟩ = some (.map (some gu)) := by rw [← hVu]; exact hB.cell 3
  have hgh := hB.lt
  have HP : Hid (∀ e w', e = .returned (.tuple #[.nilFunc, .int .i64 6]) → Below w.heap.size w w' → DoPost V S w (doP S (.order o d n)) e w') := fun e w' he hb => by
    rw [show doP S (.order o d n) = (6, S) by rw [doP, hu]; rfl]
    exact .no H (by simp) he hb
  rw [hV]
  generalize hPo : DoPost V S w (doP S (.order o d n)) = Po at HP ⊢
  clear hPo hV hB H hu hVu
  go_enter Tryz.func229, Tryz.ntmps229
  go_wp2_with (first
    | (with_reducible show wpList _ _ _ (⟨_, .box 212 _, _, _, _, _⟩ :: _) _ _
       refine wpList_box_cells rfl 212 _ rfl (.agg #[.string o, .string d, .int .i64 (n : Int)]) #[.string o, .string d, .int .i64 (n : Int)] rfl rfl ?_
       intro w1 g1 hG1 hgr1 hge1
       have hb1 := below_grown hgr1)
    | (with_reducible show wpList _ _ _ (⟨_, .box 37 _, _, _, _, _⟩ :: _) _ _
       refine wpList_box_cells rfl 37 _ rfl (.pointer (some ⟨gh, 0, none⟩)) #[.pointer (some ⟨gh, 0, none⟩)] rfl rfl ?_
       intro w2 g2 hG2 hgr2 hge2
       have hb12 := below_grown hgr2
       have hb2 := hb1.trans (hb12.mono hb1.size)
       have d0 : w2.cell? ⟨g1, 0, none⟩ = some (.string o) := (Blk.callee hG1 hb12).at_ 0 rfl
       have d1 : w2.cell? ⟨g2, 0, none⟩ = some (.pointer (some ⟨gh, 0, none⟩)) := hG2.at_ 0 rfl
       have d2 : w2.cell? ⟨gh, 3, none⟩ = some (.map (some gu)) := (hb2.cell (p := ⟨gh, 3, none⟩) hgh).trans c1
       have d4 := fun q => HLK.out (w2.drewN q) (below_drewN hb2 q)))
  have HB2 := Lib.hid hb2
  clear hb1 hgr1 hb12 hgr2 hb2 c1
  go_quiet (fail)
  go_wp2_with (fail)
  exact HP.out _ _ rfl (below_drewN HB2.out _)
set_option maxRecDepth 100000 in
theorem ordering_shut (H : HouseAt w V S) (o d : ByteArray) (n : Nat) (hu : hasB o S.used = false) (E : Int) (hE : E ≠ 0) (hp : openR V S d = .tuple #[.pointer none, .int .i64 E]) (hd : doP S (.order o d n) = (E, S)) :
    Calls Tryz.prog 229 #[.agg #[.string o, .string d, .int .i64 (n : Int)], V .house] w (DoPost V S w (doP S (.order o d n))) := by
  have HOP := Lib.hid (fun (w' : World) (hb : Below w.heap.size w w') => open_any (H.callee hb) d)
  rw [hp] at HOP
  obtain ⟨gh, hV, hB⟩ := H.hs
  obtain ⟨gu, hVu, _⟩ := H.mu
  have HLK : Hid (∀ (w' : World), Below w.heap.size w w' → (Instr.lookup 109 (.map (some gu)) (.string o) false).run Tryz.prog w' = .ok (.bool false) w') := fun w' hb => by
    have h := H.lookU (fun g hg => hb.block g (H.lt hg)) hVu o
    rw [hu] at h
    exact h
  have c1 : w.cell? ⟨gh, 3, none⟩ = some (.map (some gu)) := by rw [← hVu]; exact hB.cell 3
  have hgh := hB.lt
  have HP : Hid (∀ e w', e = .returned (.tuple #[.nilFunc, .int .i64 E]) → Below w.heap.size w w' → DoPost V S w (doP S (.order o d n)) e w') := fun e w' he hb => by
    rw [hd]
    exact .no H hE he hb
  rw [hV] at HOP ⊢
  generalize hPo : DoPost V S w (doP S (.order o d n)) = Po at HP ⊢
  have hE2 : (E != 0) = true := by simpa using hE
  have hE3 : (E == 0) = false := by simpa using hE
  clear hPo hV hB H hu hVu hd hp hE
  go_enter Tryz.func229, Tryz.ntmps229
  go_wp2_with (first
    | (with_reducible show wpList _ _ _ (⟨_, .box 212 _, _, _, _, _⟩ :: _) _ _
       refine wpList_box_cells rfl 212 _ rfl (.agg #[.string o, .string d, .int .i64 (n : Int)]) #[.string o, .string d, .int .i64 (n : Int)] rfl rfl ?_
       intro w1 g1 hG1 hgr1 hge1
       have hb1 := below_grown hgr1)
    | (with_reducible show wpList _ _ _ (⟨_, .box 37 _, _, _, _, _⟩ :: _) _ _
       refine wpList_box_cells rfl 37 _ rfl (.pointer (some ⟨gh, 0, none⟩)) #[.pointer (some ⟨gh, 0, none⟩)] rfl rfl ?_
       intro w2 g2 hG2 hgr2 hge2
       have hb12 := below_grown hgr2
       have hb2 := hb1.trans (hb12.mono hb1.size)
       have d0 : w2.cell? ⟨g1, 0, none⟩ = some (.string o) := (Blk.callee hG1 hb12).at_ 0 rfl
       have d01 : w2.cell? ⟨g1, 1, none⟩ = some (.string d) := (Blk.callee hG1 hb12).at_ 1 rfl
       have d1 : w2.cell? ⟨g2, 0, none⟩ = some (.pointer (some ⟨gh, 0, none⟩)) := hG2.at_ 0 rfl
       have d2 : w2.cell? ⟨gh, 3, none⟩ = some (.map (some gu)) := (hb2.cell (p := ⟨gh, 3, none⟩) hgh).trans c1
       have d4 := fun q => HLK.out (w2.drewN q) (below_drewN hb2 q)))
  have HB2 := Lib.hid hb2
  clear hb1 hgr1 hb12 hgr2 hb2 c1
  go_quiet (fail)
  go_wp2_with (go_at_call 216; (with_reducible refine (HOP.out _ (below_drewN HB2.out _)).mono ?_); rintro e w3 ⟨rfl, rfl⟩)
  exact HP.out _ _ rfl (below_drewN HB2.out _)
end
end Dr
end Go.Proofs.YtbgakdpbglpfaaaGreatDoor
-- the text DrX
namespace Go.Proofs.YtbgakdpbglpfaaaGreatDoor
open Go.RowKit
namespace Dr
set_option linter.unusedSimpArgs false
section
variable {P : Program} {w : World} {o : Oper} {a : Act} {K : Act → World → Prop} {Q : Exit → Act → World → Prop}
theorem wp_copy (d s : Operand) (dT sT : TypeId) (ho : o.op = .call { callee := .builtin .copy, args := #[d, s], argTypes := #[dT, sT] }) (elem : TypeId) (hu : P.underlying dT = some (.slice elem)) (hsz : (P.info? elem).map (·.size) = some 1)
    (g off dLen dCap : Nat) (ad : Addr) (sLen sCap : Nat) (hd : a.eval d = .slice (some ⟨g, off, none⟩) dLen dCap) (hs : a.eval s = .slice (some ad) sLen sCap)
    (cur : Array Value) (t : TypeId) (hg : w.heap[g]? = some (.cells cur t (0, 0))) (cs : List Value) (hn : cs.length = Nat.min sLen dLen)
    (hsrc : ∀ j v, cs[j]? = some v → w.cell? (ad.add j) = some v) (hfit : off + cs.length ≤ cur.size) (h1 : ∀ v ∈ cs, v.oneCell' = true)
    (h : K (a.put o.dst (goInt cs.length)) (w.setRow g (cur.toList.take off ++ cs ++ cur.toList.drop (off + cs.length)).toArray)) : o.wp P a w K Q := by
  have hrun := run_copy_row (P := P) w dT sT o.type elem g off dLen dCap ad sLen sCap cur t cs hu hsz hg hn hsrc hfit h1
  unfold Oper.wp
  unfold execOp
  simp only [ho, resolve, invoke, builtin, Sem.run_bind, Sem.run_pure, Result.andThen_ok, List.map_toArray, List.map_cons, List.map_nil, hd, hs, hrun, Oper.upon_value]
  exact h
end
/-- k cells are laid -/
def repRow (s n k : Nat) : Array Value := (List.replicate k (Value.int .i64 (s : Int)) ++ List.replicate (n - k) (Value.int .i64 0)).toArray
theorem repRow_lay {s n k m : Nat} (h : k + m ≤ n) : ((repRow s n k).toList.take k ++ List.replicate m (Value.int .i64 (s : Int)) ++ (repRow s n k).toList.drop (k + m)).toArray = repRow s n (k + m) := by
  unfold repRow
  simp only [List.toList_toArray]
  rw [List.take_append_of_le_length (by simp), List.take_of_length_le (by simp), List.drop_append, List.drop_of_length_le (by simp), List.drop_replicate, List.length_replicate, List.nil_append, List.replicate_append_replicate]
  congr 3
  omega
theorem repRow_at {s n k j : Nat} (h : j < k) : (repRow s n k)[j]? = some (.int .i64 (s : Int)) := by
  unfold repRow
  rw [List.getElem?_toArray, List.getElem?_append_left (by simpa using h), List.getElem?_replicate, if_pos h]
theorem repRow_size {s n k : Nat} (h : k ≤ n) : (repRow s n k).size = n := by unfold repRow; simp; omega
theorem mul_one_any (n : Nat) (hn : n ≤ 40) (w : World) : Calls Tryz.prog 234 #[.int .u64 1, .int .u64 (n : Int)] w fun e w' => e = .returned (.tuple #[.int .u64 0, .int .u64 (n : Int)]) ∧ w' = w := by
  have h := Tryz.bits_Mul 1 n (by omega) (by omega) w
  rw [Nat.one_mul, Nat.div_eq_of_lt (by omega), Nat.mod_eq_of_lt (by omega)] at h
  exact h
set_option maxRecDepth 100000 in
theorem repeat_none (A : Option Addr) (cap : Nat) (w : World) : Calls Tryz.prog 231 #[.slice A 1 cap, .int .i64 0] w fun e w' => (∃ gr, e = .returned (.slice (some ⟨gr, 0, none⟩) 0 0)) ∧ Below w.heap.size w w' := by
  have hmk : ∀ w : World, (Instr.makeSlice 40 (.int .i64 0) (.int .i64 0)).run Tryz.prog w = .ok (.slice (some ⟨w.heap.size, 0, none⟩) 0 0) (w.alloc (.cells (madeCells #[.int .i64 0] 0) 3)) := run_make_row' (P := Tryz.prog) 40 3 (.int .i64 0) 8 Tryz.underlying40 infoInt rfl .i64 .i64 0 (by omega) (by omega)
  have hml : Hid (∀ w', Calls Tryz.prog 234 #[.int .u64 1, .int .u64 0] w' fun e w'' => e = .returned (.tuple #[.int .u64 0, .int .u64 0]) ∧ w'' = w') := fun w' => mul_one_any 0 (by omega) w'
  go_enter Tryz.func231, Tryz.ntmps231
  go_wp2_with (first
    | (go_at_call 234; (with_reducible refine (hml.out _).mono ?_); rintro e wz ⟨rfl, hwz⟩; replace hwz := hwz.symm; subst hwz)
    | (with_reducible refine wpList_copy_nothing rfl _ _ 40 40 rfl 3 Tryz.underlying40 (by kernel_rfl) _ _ _ _ _ _ rfl rfl (by simp) ?_))
  go_loopw [8] (fun v wr => v = .int .i64 0 ∧ Below w.heap.size w wr) (fun _ _ => 0)
  case atStart => exact ⟨rfl, (Below.refl _ _).alloc (Nat.le_refl _) _⟩
  case round =>
    obtain ⟨rfl, hb⟩ := hrel
    go_wp2_with (fail)
    go_ret
    exact ⟨⟨_, rfl⟩, hb⟩
theorem made_row (s n : Nat) : madeCells #[Value.int .i64 0] n = repRow s n 0 := by
  rw [intArr_made]
  simp [repRow, intArr, ints]
set_option maxRecDepth 100000 in
theorem repeat_some (b off cap s n : Nat) (hn : n ≤ 40) (h1 : 1 ≤ n) (w : World) (hc : w.cell? ⟨b, off, none⟩ = some (.int .i64 (s : Int))) (hbl : b < w.heap.size) : Calls Tryz.prog 231 #[.slice (some ⟨b, off, none⟩) 1 cap, .int .i64 (n : Int)] w fun e w' => (∃ gr, e = .returned (.slice (some ⟨gr, 0, none⟩) n n) ∧ w.heap.size ≤ gr ∧ Blk w' gr 3 (repRow s n n)) ∧ Below w.heap.size w w' := by
  have hmk : ∀ w : World, (Instr.makeSlice 40 (.int .i64 (n : Int)) (.int .i64 (n : Int))).run Tryz.prog w = .ok (.slice (some ⟨w.heap.size, 0, none⟩) n n) (w.alloc (.cells (repRow s n 0) 3)) := fun w => by
    rw [← made_row]
    exact run_make_row' (P := Tryz.prog) 40 3 (.int .i64 0) 8 Tryz.underlying40 infoInt rfl .i64 .i64 n (by omega) (by omega) w
  have hml : Hid (∀ w', Calls Tryz.prog 234 #[.int .u64 1, .int .u64 (n : Int)] w' fun e w'' => e = .returned (.tuple #[.int .u64 0, .int .u64 (n : Int)]) ∧ w'' = w') := fun w' => mul_one_any n (by omega) w'
  have hb1 : Hid (Below w.heap.size w (w.alloc (.cells (repRow s n 0) 3))) := (Below.refl _ _).alloc (Nat.le_refl _) _
  have hpos : Hid (∀ j v, [Value.int .i64 (s : Int)][j]? = some v → (w.alloc (.cells (repRow s n 0) 3)).cell? ((⟨b, off, none⟩ : Addr).add j) = some v) := fun j v hj => by
    cases j with
    | zero =>
      simp at hj
      subst hj
      rw [← hc]
      exact hb1.out.cell (p := ⟨b, off, none⟩) hbl
    | succ j => simp at hj
  have hgg : Hid ((w.alloc (.cells (repRow s n 0) 3)).heap[w.heap.size]? = some (.cells (List.replicate n (Value.int .i64 0)).toArray 3 (0, 0))) := by
    rw [Hid, heap_alloc_new]
    simp [repRow]
  have hmn : Hid ([Value.int .i64 (s : Int)].length = Nat.min 1 n) := (Nat.min_eq_left h1).symm
  have hft : Hid (0 + [Value.int .i64 (s : Int)].length ≤ (List.replicate n (Value.int .i64 0)).length) := by
    rw [Hid, List.length_replicate]
    exact h1
  have hoc : Hid (∀ v ∈ [Value.int .i64 (s : Int)], v.oneCell' = true) := fun v hv => by
    obtain rfl := List.mem_singleton.1 hv
    rfl
  clear hc
  go_enter Tryz.func231, Tryz.ntmps231
  go_wp2_with (first
    | (go_at_call 234; (with_reducible refine (hml.out _).mono ?_); rintro e wz ⟨rfl, hwz⟩; replace hwz := hwz.symm; subst hwz)
    | ((with_reducible show wpList _ _ _ (⟨some 33, _, _, _, _, _⟩ :: _) _ _)
       go_must (refine wpList_copy_splice rfl _ _ 40 40 rfl 3 Tryz.underlying40 (by kernel_rfl) (some ⟨w.heap.size, 0, none⟩) (some ⟨b, off, none⟩) n n 1 cap rfl rfl w.heap.size 0 (List.replicate n (.int .i64 0)) 3 hgg.out [.int .i64 (s : Int)] hmn.out (fun _ => ⟨rfl, _, rfl, hpos.out⟩) hft.out hoc.out w.heap.size w hb1.out (Nat.le_refl _) ?_)
       intro w2 hR2 hb2))
  have hR : Blk w2 w.heap.size 3 (repRow s n 1) := by
    have h := hR2.out
    have e := repRow_lay (s := s) (n := n) (k := 0) (m := 1) (by omega)
    unfold splice at h
    have e2 : (List.replicate n (Value.int .i64 0)) = (repRow s n 0).toList := by simp [repRow]
    rw [e2] at h
    rw [← Nat.zero_add 1, ← e]
    simpa [Blk] using h
  clear hR2 hpos hb1 hmk hml hgg hmn hft hoc
  go_loopw [8] (fun v wr => ∃ k : Nat, 1 ≤ k ∧ k ≤ n ∧ v = .int .i64 (k : Int) ∧ Blk wr w.heap.size 3 (repRow s n k) ∧ Below w.heap.size w wr) (fun v _ => n - (intOf v).toNat)
  case atStart => exact ⟨1, Nat.le_refl _, h1, rfl, hR, hb2⟩
  case round =>
    clear hR hb2
    obtain ⟨k, hk1, hkn, rfl, hR, hb⟩ := hrel
    by_cases hlt : k < n
    · have hlti : (k : Int) < n := by omega
      have hk0 : (0 : Int) ≤ k := by omega
      have hkl : (k : Int) ≤ n := by omega
      have hn0 : (0 : Int) ≤ n := by omega
      go_wp2_with (fail)
      obtain ⟨m, hm⟩ : ∃ m, Nat.min k (n - k) = m := ⟨_, rfl⟩
      have hmk1 : m ≤ k := by rw [← hm]; exact Nat.min_le_left _ _
      have hmk2 : m ≤ n - k := by rw [← hm]; exact Nat.min_le_right _ _
      have HKM : Hid (k + m ≤ n) := by rw [Hid]; omega
      have hm1 : 1 ≤ m := by rw [← hm]; exact Nat.le_min.2 ⟨hk1, by omega⟩
      have HM1 := Lib.hid hm1
      have hwr : IntKind.i64.wrap ((k : Int) + m) = (k : Int) + m := IntWalk.i64_in _ (by have := HKM.out; omega)
      refine De.region_tree (fun b w' => bif b then (True) else (True)) 7 1 (by kernel_rfl) (by kernel_rfl) (by decide) trivial ?_
      (try simp only [Act.put, De.l0, De.l1, De.l2])
      refine De.MidT.read2 (o := ?o1) (v := ?v1) 0 (by decide) ?q1 (by kernel_rfl) (by kernel_rfl) ?w1 ?y1 ?h1
      case q1 => (simp only [De.g0, De.g1, De.g2]; rfl)
      case w1 => kernel_rfl
      case y1 => (intro b w' hw'; clear hw'; go_simp; (try with_reducible rfl))
      (try simp only [Act.put, De.l0, De.l1, De.l2])
      refine De.MidT.read (o := ?o2) (v := ?v2) 1 (by decide) ?q2 (by kernel_rfl) (by kernel_rfl) ?w2 (by kernel_rfl) ?y2 ?h2
      case q2 => (simp only [De.g0, De.g1, De.g2]; rfl)
      case w2 => kernel_rfl
      case y2 => (intro w' hw'; obtain _ := hw'; go_simp; (try with_reducible rfl))
      (try simp only [Act.put, De.l0, De.l1, De.l2])
      refine De.MidT.read (o := ?o3) (v := ?v3) 2 (by decide) ?q3 (by kernel_rfl) (by kernel_rfl) ?w3 (by kernel_rfl) ?y3 ?h3
      case q3 => (simp only [De.g0, De.g1, De.g2]; rfl)
      case w3 => kernel_rfl
      case y3 => (intro w' hw'; obtain _ := hw'; go_simp; (try with_reducible rfl))
      (try simp only [Act.put, De.l0, De.l1, De.l2])
      refine De.MidT.read (o := ?o4) (v := ?v4) 3 (by decide) ?q4 (by kernel_rfl) (by kernel_rfl) ?w4 (by kernel_rfl) ?y4 ?h4
      case q4 => (simp only [De.g0, De.g1, De.g2]; rfl)
      case w4 => kernel_rfl
      case y4 => (intro w' hw'; obtain _ := hw'; go_simp; (try with_reducible rfl))
      (try simp only [Act.put, De.l0, De.l1, De.l2])
      refine De.MidT.read (o := ?o5) (v := ?v5) 4 (by decide) ?q5 (by kernel_rfl) (by kernel_rfl) ?w5 (by kernel_rfl) ?y5 ?h5
      case q5 => (simp only [De.g0, De.g1, De.g2]; rfl)
      case w5 => kernel_rfl
      case y5 => (intro w' hw'; obtain _ := hw'; go_simp; (try with_reducible rfl))
      (try simp only [Act.put, De.l0, De.l1, De.l2])
      refine De.MidT.read (o := ?o6) (v := ?v6) 5 (by decide) ?q6 (by kernel_rfl) (by kernel_rfl) ?w6 (by kernel_rfl) ?y6 ?h6
      case q6 => (simp only [De.g0, De.g1, De.g2]; rfl)
      case w6 => kernel_rfl
      case y6 => (intro w' hw'; obtain _ := hw'; go_simp; (try with_reducible rfl))
      (try simp only [Act.put, De.l0, De.l1, De.l2])
      refine De.MidT.read (o := ?o7) (v := ?v7) 6 (by decide) ?q7 (by kernel_rfl) (by kernel_rfl) ?w7 (by kernel_rfl) ?y7 ?h7
      case q7 => (simp only [De.g0, De.g1, De.g2]; rfl)
      case w7 => kernel_rfl
      case y7 => (intro w' hw'; obtain _ := hw'; go_simp; (try with_reducible rfl))
      (try simp only [Act.put, De.l0, De.l1, De.l2])
      (try refine De.MidT.tail ?_)
      refine De.Tr.one (i := 7) (o := ?o8) (by kernel_rfl) ?q8 ?g8 ?h8
      case q8 => (simp only [De.g0, De.g1, De.g2]; rfl)
      case g8 => rfl
      refine wp_copy _ _ 40 40 rfl 3 Tryz.underlying40 (by kernel_rfl) w.heap.size k (n - k) (n - k) ⟨w.heap.size, 0, none⟩ k n ?_ ?_ (repRow s n k) 3 hR (List.replicate m (.int .i64 (s : Int))) ?_ ?_ ?_ ?_ ?_
      · first | rfl | (go_simp; omega)
      · first | rfl | (go_simp; omega)
      · rw [List.length_replicate, hm]
      · intro j v hj
        rw [List.getElem?_replicate] at hj
        split at hj
        · rename_i hjm
          injection hj with hj
          subst hj
          have e : (⟨w.heap.size, 0, none⟩ : Addr).add j = ⟨w.heap.size, j, none⟩ := by unfold Addr.add; split <;> simp_all
          rw [e]
          exact hR.at_ j (repRow_at (by omega))
        · cases hj
      · rw [List.length_replicate, repRow_size hkn]
        omega
      · intro v hv
        obtain ⟨_, rfl⟩ := List.mem_replicate.1 hv
        rfl
      rw [List.length_replicate, repRow_lay (by omega)]
      refine ⟨⟨_, rfl⟩, trivial, ?_⟩
      have hR2 : Blk (wr.drew.setRow w.heap.size (repRow s n (k + m))) w.heap.size 3 (repRow s n (k + m)) := setRow_heap wr.drew _ _ _ _ _ hR
      have hb2 : Below w.heap.size w (wr.drew.setRow w.heap.size (repRow s n (k + m))) := below_setRow hb.drew (Nat.le_refl _) _
      obtain ⟨w3, hw3⟩ : ∃ y, y = wr.drew.setRow w.heap.size (repRow s n (k + m)) := ⟨_, rfl⟩
      rw [← hw3] at hR2 hb2 ⊢
      clear hw3 hR hb
      (try simp only [Act.put, De.l0, De.l1, De.l2])
      refine De.MidT.read2 (o := ?o9) (v := ?v9) 8 (by decide) ?q9 (by kernel_rfl) (by kernel_rfl) ?w9 ?y9 ?h9
      case q9 => (simp only [De.g0, De.g1, De.g2]; rfl)
      case w9 => kernel_rfl
      case y9 => (intro b w' hw'; clear hw'; go_simp; (try with_reducible rfl))
      (try simp only [Act.put, De.l0, De.l1, De.l2])
      refine De.MidT.read2 (o := ?o10) (v := ?v10) 9 (by decide) ?q10 (by kernel_rfl) (by kernel_rfl) ?w10 ?y10 ?h10
      case q10 => (simp only [De.g0, De.g1, De.g2]; rfl)
      case w10 => kernel_rfl
      case y10 => (intro b w' hw'; clear hw'; go_simp; (try with_reducible rfl))
      (try simp only [Act.put, De.l0, De.l1, De.l2])
      (try refine De.MidT.tail ?_)
      refine De.Tr.done (by kernel_rfl) ?_
      (try simp only [Act.put, De.l0, De.l1, De.l2])
      go_wp2_with (fail)
      go_roundw
      case rel => exact ⟨k + m, by have := HM1.out; omega, HKM.out, by go_num, hR2, hb2⟩
      case measure => have := HKM.out; have := HM1.out; simp only [intOf]; omega
    · have hlti : ¬ (k : Int) < n := by omega
      obtain rfl : k = n := by omega
      go_wp2_with (fail)
      go_ret
      exact ⟨⟨_, rfl, Nat.le_refl _, hR⟩, hb⟩
end Dr
end Go.Proofs.YtbgakdpbglpfaaaGreatDoor
