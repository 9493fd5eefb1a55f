/- The law TopNested: what lies in memory while its first loop runs. -/
import Derived.Test.YthbkfhhnhiplkaaGreatDoorNesV
namespace Go.Proofs.YthbkfhhnhiplkaaGreatDoor
open Go.RowKit
namespace Ns
open Bu (natI natI_at)
/-- the tree, its ties, what was made, the path, where the order stood -/
structure Sit (w0 w : World) (gT gM m kn : Nat) (T : List (Nat × Nat)) (vT : Value) (M : List Nat) (p : Value) (PA : List Nat) (a : Value) (AT : List Nat) : Prop where
  be : Below w0.heap.size w0 w
  bT : w0.heap.size ≤ gT
  bM : w0.heap.size ≤ gM
  tr : Blk w gT 35 #[.int .i64 (kn : Int), vT]
  ti : Ti.OwnP w w0.heap.size vT T
  ma : Blk w gM 3 (intArr (natI (madeL m M)))
  pa : OwnI w w0.heap.size p (natI PA)
  pm : p.ownBlock ≠ some gM
  aa : OwnI w w0.heap.size a (natI AT)
  am : a.ownBlock ≠ some gM
  pq : ∀ g, p.ownBlock = some g → a.ownBlock ≠ some g
theorem ownP_ne {w : World} {base g : Nat} {v : Value} {ps : List (Nat × Nat)} {t : TypeId} {cs : Array Value} (h : Ti.OwnP w base v ps) (hB : Blk w g t cs) (ht : 37 ≠ t) : v.ownBlock ≠ some g := own_blk_ne h hB ht
theorem ownP_ownI {w : World} {base : Nat} {v p : Value} {ps : List (Nat × Nat)} {xs : List Int} (h : Ti.OwnP w base v ps) (ho : OwnI w base p xs) (g : Nat) (hg : v.ownBlock = some g) : p.ownBlock ≠ some g := by
  obtain ⟨cs, hcs⟩ := h.block hg
  exact ho.blk_ne (t := 37) hcs (by decide)
section
variable {w0 w w' : World} {gT gM m kn : Nat} {T : List (Nat × Nat)} {vT : Value} {M : List Nat} {p : Value} {PA : List Nat} {a : Value} {AT : List Nat}
theorem Sit.alloc (h : Sit w0 w gT gM m kn T vT M p PA a AT) (o : Obj) : Sit w0 (w.alloc o) gT gM m kn T vT M p PA a AT :=
  ⟨h.be.alloc h.be.size o, h.bT, h.bM, h.tr.alloc o, h.ti.none_ (World.grownBy_alloc w o none), h.ma.alloc o, h.pa.none_ (World.grownBy_alloc w o none), h.pm, h.aa.none_ (World.grownBy_alloc w o none), h.am, h.pq⟩
theorem Sit.neTM (h : Sit w0 w gT gM m kn T vT M p PA a AT) : gT ≠ gM := h.tr.ne_ h.ma (by decide)
/-- what a coin's customer made -/
theorem Sit.made (h : Sit w0 w gT gM m kn T vT M p PA a AT) (hM : M.length < m) (y : Nat) : Sit w0 (w.setCell ⟨gM, M.length, none⟩ (.int .i64 (y : Int))) gT gM m kn T vT (M ++ [y]) p PA a AT := by
  have hm := h.ma.set_ M.length (.int .i64 (y : Int))
  rw [intArr_set, natI_set, madeL_set hM] at hm
  exact ⟨h.be.setCell h.bM _, h.bT, h.bM, h.tr.far (p := ⟨gM, M.length, none⟩) h.neTM _, h.ti.keep (fun g hg => Below.heap_setCell w _ _ g (fun e => ownP_ne h.ti h.ma (by decide) (by rw [hg]; exact congrArg some e))), hm,
    h.pa.set_ (p := ⟨gM, M.length, none⟩) h.pm _, h.pm, h.aa.set_ (p := ⟨gM, M.length, none⟩) h.am _, h.am, h.pq⟩
/-- a tie more, and the tree's field -/
theorem Sit.ties (h : Sit w0 w gT gM m kn T vT M p PA a AT) {v' : Value} {T' : List (Nat × Nat)} (ho : Ti.OwnP w' w0.heap.size v' T') (hgr : w.grownBy w' vT.ownBlock) : Sit w0 (w'.setCell ⟨gT, 1, none⟩ v') gT gM m kn T' v' M p PA a AT := by
  have hT := h.tr.grown hgr (fun e => ownP_ne h.ti h.tr (by decide) e.symm)
  have hM := h.ma.grown hgr (fun e => ownP_ne h.ti h.ma (by decide) e.symm)
  have hP : OwnI w' w0.heap.size p (natI PA) := h.pa.keep fun g hg => hgr.block g (h.pa.lt hg) (fun e => ownP_ownI h.ti h.pa g e.symm hg)
  have hA : OwnI w' w0.heap.size a (natI AT) := h.aa.keep fun g hg => hgr.block g (h.aa.lt hg) (fun e => ownP_ownI h.ti h.aa g e.symm hg)
  have hbe := h.be.grown hgr h.be.size (fun g hg => h.ti.ge hg)
  refine ⟨hbe.setCell h.bT _, h.bT, h.bM, hT.set_ 1 v', ho.keep (fun g hg => Below.heap_setCell w' _ _ g (fun e => ownP_ne ho hT (by decide) (by rw [hg]; exact congrArg some e))), hM.far (p := ⟨gT, 1, none⟩) h.neTM.symm _,
    hP.set_ (p := ⟨gT, 1, none⟩) (hP.blk_ne hT (by decide)) _, h.pm, hA.set_ (p := ⟨gT, 1, none⟩) (hA.blk_ne hT (by decide)) _, h.am, h.pq⟩
/-- the number of knots -/
theorem Sit.knots (h : Sit w0 w gT gM m kn T vT M p PA a AT) (k2 : Nat) : Sit w0 (w.setCell ⟨gT, 0, none⟩ (.int .i64 (k2 : Int))) gT gM m k2 T vT M p PA a AT :=
  ⟨h.be.setCell h.bT _, h.bT, h.bM, h.tr.set_ 0 _, h.ti.keep (fun g hg => Below.heap_setCell w _ _ g (fun e => ownP_ne h.ti h.tr (by decide) (by rw [hg]; exact congrArg some e))), h.ma.far (p := ⟨gT, 0, none⟩) h.neTM.symm _,
    h.pa.set_ (p := ⟨gT, 0, none⟩) (h.pa.blk_ne h.tr (by decide)) _, h.pm, h.aa.set_ (p := ⟨gT, 0, none⟩) (h.aa.blk_ne h.tr (by decide)) _, h.am, h.pq⟩
/-- a list of ints grew in its own row, or in a new one: the path -/
theorem Sit.path (h : Sit w0 w gT gM m kn T vT M p PA a AT) {g n c : Nat} {P2 : List Nat} (ho : OwnI w' w0.heap.size (.slice (some ⟨g, 0, none⟩) n c) (natI P2)) (hgr : w.grownBy w' p.ownBlock) (hat : p.ownBlock = some g ∨ g = w.heap.size) :
    Sit w0 w' gT gM m kn T vT M (.slice (some ⟨g, 0, none⟩) n c) P2 a AT := by
  have hT := h.tr.grown hgr (fun e => h.pa.blk_ne h.tr (by decide) e.symm)
  have hM := h.ma.grown hgr (fun e => h.pm e.symm)
  refine ⟨h.be.grown hgr h.be.size (fun g hg => h.pa.ge hg), h.bT, h.bM, hT, h.ti.keep (fun g hg => hgr.block g (h.ti.lt hg) (fun e => ownP_ownI h.ti h.pa g hg e.symm)), hM, ho, ?_,
    h.aa.keep (fun g hg => hgr.block g (h.aa.lt hg) (fun e => h.pq g e.symm hg)), h.am, ?_⟩
  · intro e
    obtain rfl : g = gM := by simpa [Value.ownBlock] using e
    rcases hat with hat | hat
    · exact h.pm hat
    · have := h.ma.lt
      omega
  · intro g2 e e2
    obtain rfl : g = g2 := by simpa [Value.ownBlock] using e
    rcases hat with hat | hat
    · exact h.pq g hat e2
    · have := h.aa.lt e2
      omega
/-- where the order stood -/
theorem Sit.stood (h : Sit w0 w gT gM m kn T vT M p PA a AT) {g n c : Nat} {A2 : List Nat} (ho : OwnI w' w0.heap.size (.slice (some ⟨g, 0, none⟩) n c) (natI A2)) (hgr : w.grownBy w' a.ownBlock) (hat : a.ownBlock = some g ∨ g = w.heap.size) :
    Sit w0 w' gT gM m kn T vT M p PA (.slice (some ⟨g, 0, none⟩) n c) A2 := by
  have hT := h.tr.grown hgr (fun e => h.aa.blk_ne h.tr (by decide) e.symm)
  have hM := h.ma.grown hgr (fun e => h.am e.symm)
  refine ⟨h.be.grown hgr h.be.size (fun g hg => h.aa.ge hg), h.bT, h.bM, hT, h.ti.keep (fun g hg => hgr.block g (h.ti.lt hg) (fun e => ownP_ownI h.ti h.aa g hg e.symm)), hM,
    h.pa.keep (fun g hg => hgr.block g (h.pa.lt hg) (fun e => h.pq g hg e.symm)), h.pm, ho, ?_, ?_⟩
  · intro e
    obtain rfl : g = gM := by simpa [Value.ownBlock] using e
    rcases hat with hat | hat
    · exact h.am hat
    · have := h.ma.lt
      omega
  · intro g2 e e2
    obtain rfl : g = g2 := by simpa [Value.ownBlock] using e2
    rcases hat with hat | hat
    · exact h.pq g e hat
    · have := h.pa.lt e
      omega
end
theorem made_zero (m : Nat) : madeCells #[Value.int .i64 0] m = intArr (natI (madeL m [])) := by
  rw [intArr_made, madeL_nil]
  simp [natI]
/-- ahead of the loop -/
theorem Sit.start {w0 w : World} {gT m : Nat} (hb : Below w0.heap.size w0 w) (hT : w0.heap.size ≤ gT) (hG : Blk w gT 35 #[.int .i64 1, .slice none 0 0]) :
    Sit w0 ((w.alloc (.cells #[.int .i64 0] 3)).alloc (.cells (madeCells #[.int .i64 0] m) 3)) gT (w.heap.size + 1) m 1 [] (.slice none 0 0) [] (.slice (some ⟨w.heap.size, 0, none⟩) 1 1) [0] (.slice none 0 0) [] := by
  have hs : (w.alloc (.cells #[.int .i64 0] 3)).heap.size = w.heap.size + 1 := by show (w.heap.push _).size = _; simp
  have hsz := hb.size
  have hM := Blk.new (w.alloc (.cells #[.int .i64 0] 3)) 3 (madeCells #[.int .i64 0] m)
  rw [hs] at hM
  have hP : OwnI (w.alloc (.cells #[.int .i64 0] 3)) w0.heap.size (.slice (some ⟨w.heap.size, 0, none⟩) 1 1) (natI [0]) := World.ownsRow_lit w #[.int .i64 0] 1 hsz (by decide) rfl
  refine ⟨(hb.alloc hsz _).alloc (by rw [hs]; omega) _, hT, by omega, (hG.alloc _).alloc _, Ti.OwnP.nil _ _, ?_, hP.none_ (World.grownBy_alloc _ _ none), by simp [Value.ownBlock], OwnI.nil _ _, by simp [Value.ownBlock], by simp [Value.ownBlock]⟩
  rw [← made_zero]
  exact hM
theorem madeL_next {m : Nat} {M : List Nat} (h : M.length < m) : (madeL m M)[M.length]? = some 0 := by
  unfold madeL
  rw [List.getElem?_append_right (Nat.le_refl _), Nat.sub_self, List.getElem?_replicate, if_pos (by omega)]
theorem Sit.madeAt {w0 w : World} {gT gM m kn : Nat} {T : List (Nat × Nat)} {vT : Value} {M PA AT : List Nat} {p a : Value} (h : Sit w0 w gT gM m kn T vT M p PA a AT) (hM : M.length < m) : w.cell? ⟨gM, M.length, none⟩ = some (.int .i64 0) := by
  rw [h.ma.cell, intArr_at, natI, List.getElem?_map, madeL_next hM]
  rfl
theorem Sit.madeOf {w0 w : World} {gT gM m kn i : Nat} {T : List (Nat × Nat)} {vT : Value} {M PA AT : List Nat} {p a : Value} (h : Sit w0 w gT gM m kn T vT M p PA a AT) (hi : i < M.length) : w.cell? ⟨gM, i, none⟩ = some (.int .i64 (M.getD i 0 : Nat)) := by
  rw [h.ma.cell, intArr_at, natI, List.getElem?_map, madeL_at hi]
  rfl
/-- the path without its last one -/
theorem Sit.cut {w0 w : World} {gT gM m kn : Nat} {T : List (Nat × Nat)} {vT : Value} {M : List Nat} {PA PB : List Nat} {a : Value} {AT : List Nat} {A : Option Addr} {n n' c : Nat} (h : Sit w0 w gT gM m kn T vT M (.slice A n c) PA a AT) (ho : OwnI w w0.heap.size (.slice A n' c) (natI PB)) :
    Sit w0 w gT gM m kn T vT M (.slice A n' c) PB a AT :=
  have e : (Value.slice A n' c).ownBlock = (Value.slice A n c).ownBlock := by cases A <;> rfl
  ⟨h.be, h.bT, h.bM, h.tr, h.ti, h.ma, ho, by rw [e]; exact h.pm, h.aa, h.am, fun g hg => h.pq g (by rw [← e]; exact hg)⟩
theorem Sit.skip {w0 w : World} {gT gM m kn : Nat} {T : List (Nat × Nat)} {vT : Value} {M PA AT : List Nat} {p a : Value} (h : Sit w0 w gT gM m kn T vT M p PA a AT) (hM : M.length < m) : Sit w0 w gT gM m kn T vT (M ++ [0]) p PA a AT :=
  ⟨h.be, h.bT, h.bM, h.tr, h.ti, by rw [madeL_zero hM]; exact h.ma, h.pa, h.pm, h.aa, h.am, h.pq⟩
/-- the tree's block behind an append to its ties -/
theorem Sit.tiesT {w0 w w' : World} {gT gM m kn : Nat} {T : List (Nat × Nat)} {vT : Value} {M PA AT : List Nat} {p a : Value} (h : Sit w0 w gT gM m kn T vT M p PA a AT) (hgr : w.grownBy w' vT.ownBlock) : Blk w' gT 35 #[.int .i64 (kn : Int), vT] :=
  h.tr.grown hgr (fun e => ownP_ne h.ti h.tr (by decide) e.symm)
theorem own_lastAt {w : World} {base g n c : Nat} {l : List Nat} {x : Nat} (h : OwnI w base (.slice (some ⟨g, 0, none⟩) n c) (natI (l ++ [x]))) : w.cell? ⟨g, l.length, none⟩ = some (.int .i64 (x : Int)) := by
  obtain ⟨g', c', e, _, _, _, hc, _⟩ := own_last h
  injection e with e _ _
  injection e with e
  injection e with e
  subst e
  exact hc
theorem blk_lit {w wb : World} {t : TypeId} {cs : Array Value} (h : wb.heap.size = w.heap.size) : Blk (w.alloc (.cells cs t)) wb.heap.size t cs := by
  rw [h]
  exact Blk.new w t cs
end Ns
end Go.Proofs.YthbkfhhnhiplkaaGreatDoor
