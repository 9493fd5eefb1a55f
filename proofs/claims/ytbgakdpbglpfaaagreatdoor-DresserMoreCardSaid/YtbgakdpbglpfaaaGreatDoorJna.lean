/- The texts DrNa to DrNb, joined by joinlist.py: their statements say what each proves. -/
import Derived.Test.YtbgakdpbglpfaaaGreatDoorJmd
-- the text DrNa
namespace Go.Proofs.YtbgakdpbglpfaaaGreatDoor
open Go.RowKit
namespace Dr
set_option linter.unusedSimpArgs false
/-- what is asked about a drawer -/
def Book.ask {α : Type} (B : Book) (d : ByteArray) (z : α) (f : Chest → α) : α × Int := match lk d B.house.chests with
  | none => (z, 2)
  | some c => (f c, 0)
/-- a list of numbers comes back, and an error -/
def RowN (w : World) (r : List Nat × Int) (e : Ending) (w' : World) : Prop := ∃ v, e = .returned (.tuple #[v, .int .i64 r.2]) ∧ NewN w w' v r.1 ∧ Below w.heap.size w w'
def RowT (w : World) (r : List ByteArray × Int) (e : Ending) (w' : World) : Prop := ∃ v, e = .returned (.tuple #[v, .int .i64 r.2]) ∧ NewT w w' v r.1 ∧ Below w.heap.size w w'
section
variable {w w' : World} {V V' : Vals} {gb : Nat} {vl : Value} {B : Book} {S : House}
theorem NewN.nil (w w' : World) : NewN w w' (.slice none 0 0) [] := ⟨OwnI.nil _ _, fun g hg => by cases hg⟩
theorem NewT.nil (w w' : World) : NewT w w' (.slice none 0 0) [] := ⟨OwnS.nil _ _, fun g hg => by cases hg⟩
set_option maxRecDepth 100000 in
theorem drawer_no (H : BookAt w V gb vl B) (d : ByteArray) (h : lk d B.house.chests = none) :
    Calls Tryz.prog 76 #[.pointer (some ⟨gb, 0, none⟩), .string d] w fun e w' => e = .returned (.tuple #[.pointer none, .int .i64 2]) ∧ w' = w := by
  obtain ⟨gh, hV, hBh⟩ := H.house.hs
  obtain ⟨gc, hVc, _⟩ := H.house.mc
  have hl := H.house.lookC (fun _ _ => rfl) hVc d
  rw [h] at hl
  replace hl : (Instr.lookup 107 (.map (some gc)) (.string d) false).run Tryz.prog w = .ok (.pointer none) w := hl
  have hbk := H.bk
  rw [hV] at hbk
  have HNO := Lib.hid (none_no hbk)
  have c0 : w.cell? ⟨gb, 0, none⟩ = some (.pointer (some ⟨gh, 0, none⟩)) := hbk.at_ 0 rfl
  have c1 : w.cell? ⟨gh, 1, none⟩ = some (.map (some gc)) := by rw [← hVc]; exact hBh.at_ 1 rfl
  clear hV hVc hBh hbk H h
  go_enter Tryz.func76, Tryz.ntmps76
  go_wp2_with (go_at_call 60; (with_reducible refine HNO.out.mono ?_); rintro e w3 ⟨rfl, hw3⟩; replace hw3 := hw3.symm; subst hw3)
  go_ret2
  exact ⟨rfl, rfl⟩
set_option maxRecDepth 100000 in
theorem drawer_yes (H : BookAt w V gb vl B) (d : ByteArray) {c : Chest} {g : Nat} (h : lk d B.house.chests = some c) (hg : V (.chest d) = .pointer (some ⟨g, 0, none⟩)) :
    Calls Tryz.prog 76 #[.pointer (some ⟨gb, 0, none⟩), .string d] w fun e w' => e = .returned (.tuple #[.pointer (some ⟨g, 0, none⟩), .int .i64 0]) ∧ w' = w := by
  obtain ⟨gh, hV, hBh⟩ := H.house.hs
  obtain ⟨gc, hVc, _⟩ := H.house.mc
  have hl := H.house.lookC (fun _ _ => rfl) hVc d
  rw [h, hg] at hl
  replace hl : (Instr.lookup 107 (.map (some gc)) (.string d) false).run Tryz.prog w = .ok (.pointer (some ⟨g, 0, none⟩)) w := hl
  have hbk := H.bk
  rw [hV] at hbk
  have HNO := Lib.hid (none_no hbk)
  have c0 : w.cell? ⟨gb, 0, none⟩ = some (.pointer (some ⟨gh, 0, none⟩)) := hbk.at_ 0 rfl
  have c1 : w.cell? ⟨gh, 1, none⟩ = some (.map (some gc)) := by rw [← hVc]; exact hBh.at_ 1 rfl
  clear hV hVc hBh hbk H h hg
  go_enter Tryz.func76, Tryz.ntmps76
  go_wp2_with (go_at_call 60; (with_reducible refine HNO.out.mono ?_); rintro e w3 ⟨rfl, hw3⟩; replace hw3 := hw3.symm; subst hw3)
  go_ret2
  exact ⟨rfl, rfl⟩
set_option maxRecDepth 100000 in
theorem sizes_any (H : BookAt w V gb vl B) (I : BInv B) (d : ByteArray) :
    Calls Tryz.prog 28 #[.pointer (some ⟨gb, 0, none⟩), .string d] w (RowN w (B.ask d [] (·.sizes))) := by
  cases hk : lk d B.house.chests with
  | none =>
    rw [show B.ask d [] (·.sizes) = ([], 2) by unfold Book.ask; rw [hk]]
    have HD := Lib.hid (drawer_no H d hk)
    clear H I hk
    go_enter Tryz.func28, Tryz.ntmps28
    go_wp2_with (go_at_call 76; (with_reducible refine HD.out.mono ?_); rintro e w3 ⟨rfl, hw3⟩; replace hw3 := hw3.symm; subst hw3)
    go_ret2
    exact ⟨_, rfl, NewN.nil _ _, Below.refl _ _⟩
  | some c =>
    rw [show B.ask d [] (·.sizes) = (c.sizes, 0) by unfold Book.ask; rw [hk]]
    have hco := I.inv.ok d c hk
    have C := H.house.ch d c hk
    obtain ⟨g, hg, hB⟩ := C.at_
    have HD := Lib.hid (drawer_yes H d hk hg)
    have HC := Lib.hid (cloneI_any C.sizes (by have := hco.five; omega))
    have c0 : w.cell? ⟨g, 0, none⟩ = some (V (.sizes d)) := hB.at_ 0 rfl
    clear H I hk hco C hg hB
    go_enter Tryz.func28, Tryz.ntmps28
    go_wp2_with (first
      | (go_at_call 76; (with_reducible refine HD.out.mono ?_); rintro e w3 ⟨rfl, hw3⟩; replace hw3 := hw3.symm; subst hw3)
      | (go_at_call 77; (with_reducible refine HC.out.mono ?_); rintro e w4 ⟨v, rfl, h1, h2⟩))
    go_ret2
    exact ⟨_, rfl, h1, h2⟩
set_option maxRecDepth 100000 in
theorem stock_any (H : BookAt w V gb vl B) (I : BInv B) (d : ByteArray) :
    Calls Tryz.prog 29 #[.pointer (some ⟨gb, 0, none⟩), .string d] w (RowN w (B.ask d [] (·.stock))) := by
  cases hk : lk d B.house.chests with
  | none =>
    rw [show B.ask d [] (·.stock) = ([], 2) by unfold Book.ask; rw [hk]]
    have HD := Lib.hid (drawer_no H d hk)
    clear H I hk
    go_enter Tryz.func29, Tryz.ntmps29
    go_wp2_with (go_at_call 76; (with_reducible refine HD.out.mono ?_); rintro e w3 ⟨rfl, hw3⟩; replace hw3 := hw3.symm; subst hw3)
    go_ret2
    exact ⟨_, rfl, NewN.nil _ _, Below.refl _ _⟩
  | some c =>
    rw [show B.ask d [] (·.stock) = (c.stock, 0) by unfold Book.ask; rw [hk]]
    have hco := I.inv.ok d c hk
    have C := H.house.ch d c hk
    obtain ⟨g, hg, hB⟩ := C.at_
    have HD := Lib.hid (drawer_yes H d hk hg)
    have HC := Lib.hid (cloneI_any C.stock (by have := hco.five; have := hco.len; omega))
    have c0 : w.cell? ⟨g, 1, none⟩ = some (V (.stock d)) := hB.at_ 1 rfl
    clear H I hk hco C hg hB
    go_enter Tryz.func29, Tryz.ntmps29
    go_wp2_with (first
      | (go_at_call 76; (with_reducible refine HD.out.mono ?_); rintro e w3 ⟨rfl, hw3⟩; replace hw3 := hw3.symm; subst hw3)
      | (go_at_call 77; (with_reducible refine HC.out.mono ?_); rintro e w4 ⟨v, rfl, h1, h2⟩))
    go_ret2
    exact ⟨_, rfl, h1, h2⟩
set_option maxRecDepth 100000 in
theorem out_any (H : BookAt w V gb vl B) (I : BInv B) (d : ByteArray) :
    Calls Tryz.prog 32 #[.pointer (some ⟨gb, 0, none⟩), .string d] w (RowT w (B.ask d [] (·.out))) := by
  cases hk : lk d B.house.chests with
  | none =>
    rw [show B.ask d [] (·.out) = ([], 2) by unfold Book.ask; rw [hk]]
    have HD := Lib.hid (drawer_no H d hk)
    clear H I hk
    go_enter Tryz.func32, Tryz.ntmps32
    go_wp2_with (go_at_call 76; (with_reducible refine HD.out.mono ?_); rintro e w3 ⟨rfl, hw3⟩; replace hw3 := hw3.symm; subst hw3)
    go_ret2
    exact ⟨_, rfl, NewT.nil _ _, Below.refl _ _⟩
  | some c =>
    rw [show B.ask d [] (·.out) = (c.out, 0) by unfold Book.ask; rw [hk]]
    have hco := I.inv.ok d c hk
    have C := H.house.ch d c hk
    obtain ⟨g, hg, hB⟩ := C.at_
    have HD := Lib.hid (drawer_yes H d hk hg)
    have HC := Lib.hid (cloneS_any C.out (by have := hco.outl; omega))
    have c0 : w.cell? ⟨g, 5, none⟩ = some (V (.outs d)) := hB.at_ 5 rfl
    clear H I hk hco C hg hB
    go_enter Tryz.func32, Tryz.ntmps32
    go_wp2_with (first
      | (go_at_call 76; (with_reducible refine HD.out.mono ?_); rintro e w3 ⟨rfl, hw3⟩; replace hw3 := hw3.symm; subst hw3)
      | (go_at_call 61; (with_reducible refine HC.out.mono ?_); rintro e w4 ⟨v, rfl, h1, h2⟩))
    go_ret2
    exact ⟨_, rfl, h1, h2⟩
def RowO (w : World) (xs : List ByteArray) (e : Ending) (w' : World) : Prop := ∃ v, e = .returned v ∧ NewT w w' v xs ∧ Below w.heap.size w w'
set_option maxRecDepth 100000 in
theorem lines_any (H : BookAt w V gb vl B) (I : BInv B) : Calls Tryz.prog 23 #[.pointer (some ⟨gb, 0, none⟩)] w (RowO w B.lines) := by
  obtain ⟨gh, hV, _⟩ := H.house.hs
  have hbk := H.bk
  rw [hV] at hbk
  have HNO := Lib.hid (none_no hbk)
  have HC := Lib.hid (cloneS_any H.lines (by have := I.len; omega))
  have c0 : w.cell? ⟨gb, 1, none⟩ = some vl := hbk.at_ 1 rfl
  clear hV hbk H I
  go_enter Tryz.func23, Tryz.ntmps23
  go_wp2_with (first
    | (go_at_call 60; (with_reducible refine HNO.out.mono ?_); rintro e w3 ⟨rfl, hw3⟩; replace hw3 := hw3.symm; subst hw3)
    | (go_at_call 61; (with_reducible refine HC.out.mono ?_); rintro e w4 ⟨v, rfl, h1, h2⟩))
  go_ret
  exact ⟨_, rfl, h1, h2⟩
set_option maxRecDepth 100000 in
theorem drawers_any (H : BookAt w V gb vl B) (I : BInv B) : Calls Tryz.prog 35 #[.pointer (some ⟨gb, 0, none⟩)] w (RowO w (B.house.chests.map (·.1))) := by
  obtain ⟨gh, hV, hBh⟩ := H.house.hs
  have hbk := H.bk
  rw [hV] at hbk
  have HNO := Lib.hid (none_no hbk)
  have HC := Lib.hid (cloneS_any H.house.nm (by rw [List.length_map]; have := I.inv.four; omega))
  have c0 : w.cell? ⟨gb, 0, none⟩ = some (.pointer (some ⟨gh, 0, none⟩)) := hbk.at_ 0 rfl
  have c1 : w.cell? ⟨gh, 0, none⟩ = some (V .names) := hBh.at_ 0 rfl
  clear hV hbk H I hBh
  go_enter Tryz.func35, Tryz.ntmps35
  go_wp2_with (first
    | (go_at_call 60; (with_reducible refine HNO.out.mono ?_); rintro e w3 ⟨rfl, hw3⟩; replace hw3 := hw3.symm; subst hw3)
    | (go_at_call 61; (with_reducible refine HC.out.mono ?_); rintro e w4 ⟨v, rfl, h1, h2⟩))
  go_ret
  exact ⟨_, rfl, h1, h2⟩
end
end Dr
end Go.Proofs.YtbgakdpbglpfaaaGreatDoor
-- the text DrNb
namespace Go.Proofs.YtbgakdpbglpfaaaGreatDoor
open Go.RowKit
namespace Dr
set_option linter.unusedSimpArgs false
def Book.filled (B : Book) (o : ByteArray) : List Nat × Int := match lk o B.house.out with
  | none => ([], 2)
  | some p => (p.packets, 0)
section
variable {w w' : World} {V V' : Vals} {gb : Nat} {vl : Value} {B : Book} {S : House}
set_option maxRecDepth 100000 in
theorem filled_any (H : BookAt w V gb vl B) (I : BInv B) (o : ByteArray) :
    Calls Tryz.prog 30 #[.pointer (some ⟨gb, 0, none⟩), .string o] w (RowN w (B.filled o)) := by
  obtain ⟨gh, hV, hBh⟩ := H.house.hs
  obtain ⟨mo, hVo, _⟩ := H.house.mo
  have hl := H.house.lookO (fun _ _ => rfl) hVo o
  have hbk := H.bk
  rw [hV] at hbk
  have HNO := Lib.hid (none_no hbk)
  have c0 : w.cell? ⟨gb, 0, none⟩ = some (.pointer (some ⟨gh, 0, none⟩)) := hbk.at_ 0 rfl
  have c1 : w.cell? ⟨gh, 2, none⟩ = some (.map (some mo)) := by rw [← hVo]; exact hBh.at_ 2 rfl
  cases hk : lk o B.house.out with
  | none =>
    rw [hk] at hl
    rw [show B.filled o = ([], 2) by unfold Book.filled; rw [hk]]
    clear hV hVo hBh hbk H I hk
    go_enter Tryz.func30, Tryz.ntmps30
    go_wp2_with (first
      | (go_at_call 60; (with_reducible refine HNO.out.mono ?_); rintro e w3 ⟨rfl, hw3⟩; replace hw3 := hw3.symm; subst hw3)
      | (with_reducible show wpList _ _ _ (⟨_, .alloc 105, _, _, _, _⟩ :: _) _ _
         refine wpList_alloc_blk rfl 105 rfl _ zero_parcelC ?_
         intro w4 gp hG4 hgr4 hge4)
      | (with_reducible show wpList _ _ _ (⟨_, .store 105 _ _, _, _, _, _⟩ :: _) _ _
         refine wpList_store_blk rfl 105 _ _ rfl gp #[.string ⟨#[]⟩, .slice none 0 0] rfl rfl 105 _ hG4 info_parcelC rfl (by simp [Value.oneCell']) ?_
         intro w5 hG5 hgr5))
    go_ret2
    exact ⟨_, rfl, NewN.nil _ _, below_some (below_grown hgr4) hgr5 (below_grown hgr4).size hge4⟩
  | some p =>
    rw [hk] at hl
    replace hl : (Instr.lookup 108 (.map (some mo)) (.string o) true).run Tryz.prog w = .ok (.tuple #[.agg #[.string p.drawer, V (.pack o)], .bool true]) w := hl
    rw [show B.filled o = (p.packets, 0) by unfold Book.filled; rw [hk]]
    have hpk := H.house.pk o p hk
    have hlen : p.packets.length ≤ 1000000 := by
      obtain ⟨c, _, _, h, _⟩ := I.inv.out o p hk
      omega
    obtain ⟨pv, hpv⟩ : ∃ pv, V (.pack o) = pv := ⟨_, rfl⟩
    rw [hpv] at hl hpk
    have HPK := Lib.hid hpk
    have HON : Hid (pv.oneCell' = true) := by
      obtain ⟨A, c, e, _⟩ := ownN_form hpk
      rw [Hid, e]
      rfl
    have HL := Lib.hid hlen
    clear hV hVo hBh hbk H I hk hpk hlen hpv
    go_enter Tryz.func30, Tryz.ntmps30
    go_wp2_with (first
      | (go_at_call 60; (with_reducible refine HNO.out.mono ?_); rintro e w3 ⟨rfl, hw3⟩; replace hw3 := hw3.symm; subst hw3)
      | (with_reducible show wpList _ _ _ (⟨_, .alloc 105, _, _, _, _⟩ :: _) _ _
         refine wpList_alloc_blk rfl 105 rfl _ zero_parcelC ?_
         intro w4 gp hG4 hgr4 hge4)
      | (with_reducible show wpList _ _ _ (⟨_, .store 105 _ _, _, _, _, _⟩ :: _) _ _
         refine wpList_store_blk rfl 105 _ _ rfl gp #[.string p.drawer, pv] rfl rfl 105 _ hG4 info_parcelC rfl (by simpa [Value.oneCell'] using HON.out) ?_
         intro w5 hG5 hgr5
         have hb5 : Below w.heap.size w w5 := below_some (below_grown hgr4) hgr5 (below_grown hgr4).size hge4
         have c5 : w5.cell? ⟨gp, 1, none⟩ = some pv := hG5.at_ 1 rfl)
      | (go_at_call 77; (with_reducible refine (cloneI_any (OwnI.callee HPK.out hb5) HL.out).mono ?_); rintro e w6 ⟨v, rfl, h1, h2⟩))
    go_ret2
    exact ⟨_, rfl, ⟨h1.1, fun g hg => Nat.le_trans hb5.size (h1.2 g hg)⟩, hb5.trans (h2.mono hb5.size)⟩
end
end Dr
end Go.Proofs.YtbgakdpbglpfaaaGreatDoor
