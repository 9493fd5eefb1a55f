/- bunch's tally: what is counted once is kept. -/
import Derived.Test.YtkbfmogjhjdjmaaDoorBuP
import Derived.Test.YtkbfmogjhjdjmaaDoorProg
import Derived.Deep.RegionHeld3
import Derived.BigQuiet
import Derived.Shelf.Abstract
namespace Go.Proofs.YtkbfmogjhjdjmaaDoor
open Go.RowKit
/-- the table of a tally: what is known is right -/
def TInv (w : World) (g : Nat) : Prop := ∃ cs : Array Value, Blk w g 100 cs ∧ cs.size = 961 ∧
  ∀ f m, f ≤ 30 → m ≤ 30 → cs[f * 31 + m]? = some (.pointer none) ∨ ∃ b, cs[f * 31 + m]? = some (.pointer (some ⟨b, 0, none⟩)) ∧ b ≠ g ∧ b < w.heap.size ∧ Blk w b 3 #[.int .i64 (pV f m : Nat)]
section
variable {w w' : World} {g : Nat}
theorem TInv.lt (h : TInv w g) : g < w.heap.size := by
  obtain ⟨cs, h1, _⟩ := h
  exact h1.lt
theorem TInv.drew (h : TInv w g) : TInv w.drew g := h
theorem TInv.next (h : TInv w g) (hs : w.heap.size ≤ w'.heap.size) (hk : ∀ i, i < w.heap.size → w'.heap[i]? = w.heap[i]?) : TInv w' g := by
  obtain ⟨cs, h1, h2, h3⟩ := h
  refine ⟨cs, (hk g h1.lt).trans h1, h2, fun f m hf hm => (h3 f m hf hm).imp id ?_⟩
  rintro ⟨b, e1, e2, e3, e4⟩
  exact ⟨b, e1, e2, Nat.lt_of_lt_of_le e3 hs, (hk b e3).trans e4⟩
/-- a block of another kind, or of more cells, may be written -/
theorem TInv.some_ (h : TInv w g) {k : Nat} (hb : w.grownBy w' (some k)) (hk : g ≠ k) (h1 : ∀ v : Value, ¬ Blk w k 3 #[v]) : TInv w' g := by
  obtain ⟨cs, q1, q2, q3⟩ := h
  refine ⟨cs, q1.some_ hb hk, q2, fun f m hf hm => (q3 f m hf hm).imp id ?_⟩
  rintro ⟨b, e1, e2, e3, e4⟩
  have hne : b ≠ k := fun e => h1 _ (e ▸ e4)
  exact ⟨b, e1, e2, Nat.lt_of_lt_of_le e3 hb.size, e4.some_ hb hne⟩
theorem TInv.none_ (h : TInv w g) (hb : w.grownBy w' none) : TInv w' g := h.next hb.size fun i hi => hb.block i hi (by simp)
theorem TInv.set_ (h : TInv w g) {f m b : Nat} (hf : f ≤ 30) (hm : m ≤ 30) (hb : b ≠ g) (hbl : b < w.heap.size) (hc : Blk w b 3 #[.int .i64 (pV f m : Nat)]) : TInv (w.setCell ⟨g, f * 31 + m, none⟩ (.pointer (some ⟨b, 0, none⟩))) g := by
  obtain ⟨cs, h1, h2, h3⟩ := h
  have hkeep : ∀ i, i ≠ g → (w.setCell ⟨g, f * 31 + m, none⟩ (.pointer (some ⟨b, 0, none⟩))).heap[i]? = w.heap[i]? := fun i hi => Below.heap_setCell w _ _ i (fun e => hi e)
  refine ⟨_, h1.set_ _ _, by simpa using h2, fun f2 m2 hf2 hm2 => ?_⟩
  rw [Array.getElem?_setIfInBounds]
  by_cases he : f * 31 + m = f2 * 31 + m2
  · have e1 : f = f2 := by omega
    have e2 : m = m2 := by omega
    subst e1
    subst e2
    rw [if_pos rfl, if_pos (by omega)]
    exact Or.inr ⟨b, rfl, hb, by simpa using hbl, (hkeep b hb).trans hc⟩
  · rw [if_neg he]
    refine (h3 f2 m2 hf2 hm2).imp id ?_
    rintro ⟨b2, e1, e2, e3, e4⟩
    exact ⟨b2, e1, e2, by simpa using e3, (hkeep b2 e2).trans e4⟩
theorem cell_keep {p : Nat} {o : Nat} (hk : w'.heap[p]? = w.heap[p]?) : w'.cell? ⟨p, o, none⟩ = w.cell? ⟨p, o, none⟩ := by
  unfold World.cell?
  rw [hk]
end
/-- what a call on a tally leaves -/
def RetT (g : Nat) (n : Nat) (w : World) (e : Ending) (w' : World) : Prop := e = .returned (.int .i64 (n : Nat)) ∧ TInv w' g ∧ w.grownBy w' (some g)
def CountsAt (g f m : Nat) : Prop := ∀ w, TInv w g → Calls Tryd.prog 49 #[.pointer (some ⟨g, 0, none⟩), .int .i64 (f : Int), .int .i64 (m : Int)] w (RetT g (pV f m) w)
/-- the cells that the closure reads -/
def ClC (w : World) (g g3 g4 g5 f m : Nat) : Prop := w.cell? ⟨g3, 0, none⟩ = some (.pointer (some ⟨g, 0, none⟩)) ∧ w.cell? ⟨g4, 0, none⟩ = some (.int .i64 (f : Int)) ∧ w.cell? ⟨g5, 0, none⟩ = some (.int .i64 (m : Int)) ∧ g3 ≠ g ∧ g4 ≠ g ∧ g5 ≠ g ∧ g3 < w.heap.size ∧ g4 < w.heap.size ∧ g5 < w.heap.size
theorem ClC.next {w w' : World} {g g3 g4 g5 f m : Nat} (h : ClC w g g3 g4 g5 f m) (hg : w.grownBy w' (some g)) : ClC w' g g3 g4 g5 f m := by
  obtain ⟨a1, a2, a3, b1, b2, b3, c1, c2, c3⟩ := h
  have k : ∀ p, p ≠ g → p < w.heap.size → w'.heap[p]? = w.heap[p]? := fun p h1 h2 => hg.block p h2 (fun e => h1 (by injection e))
  exact ⟨(cell_keep (k _ b1 c1)).trans a1, (cell_keep (k _ b2 c2)).trans a2, (cell_keep (k _ b3 c3)).trans a3, b1, b2, b3, Nat.lt_of_lt_of_le c1 hg.size, Nat.lt_of_lt_of_le c2 hg.size, Nat.lt_of_lt_of_le c3 hg.size⟩
theorem grown_trans {w w' w'' : World} {r : Option Nat} (h : w.grownBy w' r) (h2 : w'.grownBy w'' r) : w.grownBy w'' r :=
  ⟨h2.os.trans h.os, h2.tape.trans h.tape, h2.output.trans h.output, Nat.le_trans h.size h2.size, fun i hi hn => (h2.block i (Nat.lt_of_lt_of_le hi h.size) hn).trans (h.block i hi hn)⟩
set_option maxRecDepth 100000 in
set_option maxHeartbeats 4000000 in
theorem cl_any (g g3 g4 g5 f m : Nat) (hf : f ≤ 30) (hm1 : 1 ≤ m) (hmf : m ≤ f) (c1 : CountsAt g f (m - 1)) (c2 : CountsAt g (f - m) m) (w : World) (hT : TInv w g) (hC : ClC w g g3 g4 g5 f m) :
    Calls Tryd.prog 57 #[.pointer (some ⟨g3, 0, none⟩), .pointer (some ⟨g4, 0, none⟩), .pointer (some ⟨g5, 0, none⟩)] w (RetT g (pV f m) w) := by
  have hs := pV_step (f := f) (m := m) (by omega) hmf
  have hl := pV_le (f := f) (m := m) hf
  obtain ⟨A, hA⟩ : ∃ a, pV f (m - 1) = a := ⟨_, rfl⟩
  obtain ⟨B, hB⟩ : ∃ a, pV (f - m) m = a := ⟨_, rfl⟩
  obtain ⟨C, hCv⟩ : ∃ a, pV f m = a := ⟨_, rfl⟩
  obtain ⟨m1, hm⟩ : ∃ a, m - 1 = a := ⟨_, rfl⟩
  obtain ⟨f1, hf1⟩ : ∃ a, f - m = a := ⟨_, rfl⟩
  unfold CountsAt RetT at c1 c2
  rw [hA] at c1 hs
  rw [hB] at c2 hs
  rw [hCv] at hs hl ⊢
  rw [hm] at c1
  rw [hf1] at c2
  have c1H := Lib.hid c1
  have c2H := Lib.hid c2
  have hmi : (m : Int) - 1 = m1 := by omega
  have hfi : (f : Int) - m = f1 := by omega
  have hmw : IntKind.i64.wrap (m1 : Int) = m1 := by rw [IntKind.wrap_i64]; omega
  have hfw : IntKind.i64.wrap (f1 : Int) = f1 := by rw [IntKind.wrap_i64]; omega
  have hAB : (A : Int) + B = C := by omega
  have hCw : IntKind.i64.wrap (C : Int) = C := by rw [IntKind.wrap_i64]; omega
  have hCH := Lib.hid hC
  obtain ⟨k3, k4, k5, _⟩ := hC
  clear c1 c2 hs hA hB hCv hm hf1
  go_enter Tryd.func57, Tryd.ntmps57
  go_wp2_with (fail)
  go_region_held3 (fun w' => w'.cell? ⟨g3, 0, none⟩ = some (.pointer (some ⟨g, 0, none⟩)) ∧ w'.cell? ⟨g4, 0, none⟩ = some (.int .i64 (f : Int)) ∧ w'.cell? ⟨g5, 0, none⟩ = some (.int .i64 (m : Int)))
    (first | assumption | exact ⟨k3, k4, k5⟩)
    (first
      | (go_at_call 49; (with_reducible refine (c1H.out _ hT.drew).mono ?_); rintro e w2 ⟨rfl, hT2, hg2⟩
         have hC2 : ClC w2 g g3 g4 g5 f m := ClC.next (w := w.drew) hCH.out hg2
         have hS2 : w2.cell? ⟨g3, 0, none⟩ = some (.pointer (some ⟨g, 0, none⟩)) ∧ w2.cell? ⟨g4, 0, none⟩ = some (.int .i64 (f : Int)) ∧ w2.cell? ⟨g5, 0, none⟩ = some (.int .i64 (m : Int)) := ⟨hC2.1, hC2.2.1, hC2.2.2.1⟩)
      | (go_at_call 49; (with_reducible refine (c2H.out _ hT2).mono ?_); rintro e w3 ⟨rfl, hT3, hg3⟩
         have hC3 : ClC w3 g g3 g4 g5 f m := hC2.next hg3
         have hS3 : w3.cell? ⟨g3, 0, none⟩ = some (.pointer (some ⟨g, 0, none⟩)) ∧ w3.cell? ⟨g4, 0, none⟩ = some (.int .i64 (f : Int)) ∧ w3.cell? ⟨g5, 0, none⟩ = some (.int .i64 (m : Int)) := ⟨hC3.1, hC3.2.1, hC3.2.2.1⟩))
  go_wp2_with (fail)
  go_ret
  exact ⟨rfl, hT3, grown_trans ⟨hg2.os, hg2.tape, hg2.output, hg2.size, hg2.block⟩ hg3⟩
set_option maxRecDepth 100000 in
set_option maxHeartbeats 4000000 in
theorem of_any (g g3 g4 g5 f m : Nat) (hf : f ≤ 30) (hm1 : 1 ≤ m) (hmf : m ≤ f) (cc : ∀ w, TInv w g → ClC w g g3 g4 g5 f m → Calls Tryd.prog 57 #[.pointer (some ⟨g3, 0, none⟩), .pointer (some ⟨g4, 0, none⟩), .pointer (some ⟨g5, 0, none⟩)] w (RetT g (pV f m) w)) (w : World) (hT : TInv w g) (hC : ClC w g g3 g4 g5 f m) :
    Calls Tryd.prog 56 #[.pointer (some ⟨g, 0, none⟩), .int .i64 (f : Int), .int .i64 (m : Int), .func (.func 57) #[] #[.pointer (some ⟨g3, 0, none⟩), .pointer (some ⟨g4, 0, none⟩), .pointer (some ⟨g5, 0, none⟩)]] w (RetT g (pV f m) w) := by
  have eg := enters_of Tryd.func57 (by kernel_rfl) rfl
  have hmn : min (m : Int) f = m := by omega
  have hf31 : (f : Int) < 31 := by omega
  have hm31 : (m : Int) < 31 := by omega
  obtain ⟨V, hV⟩ : ∃ a, pV f m = a := ⟨_, rfl⟩
  have hVH := Lib.hid hV
  unfold RetT at cc
  rw [hV] at cc
  have ccH := Lib.hid cc
  unfold RetT
  rw [hV]
  have hTH := Lib.hid hT
  have hCH := Lib.hid hC
  obtain ⟨cs, hB, hsz, htab⟩ := hT
  have hglt := hB.lt
  rcases htab f m hf (by omega) with hn | ⟨b, hb, hbg, hbl, hbc⟩
  · have hcell : w.cell? ⟨g, f * 31 + m, none⟩ = some (.pointer none) := (hB.cell _).trans hn
    clear cc hV hC htab hn
    go_enter Tryd.func56, Tryd.ntmps56
    go_wp2_with (first
      | (with_reducible show Calls _ _ _ _ _; refine (ccH.out _ hTH.out hCH.out).mono ?_; rintro e w2 ⟨rfl, hT2, hg2⟩
         have hT3 := hT2.none_ (World.grownBy_alloc w2 (.cells #[.int .i64 (V : Nat)] 3) none)
         have hne : w2.heap.size ≠ g := by have := hT2.lt; omega
         have hb3 := Blk.new w2 3 #[.int .i64 (V : Nat)]
         have hT4 := hT3.set_ (f := f) (m := m) hf (by omega) hne hb3.lt (by rw [hVH.out]; exact hb3)
         obtain ⟨cs2, hB2, hsz2, _⟩ := hT2
         have hB3 := hB2.none_ (World.grownBy_alloc w2 (.cells #[.int .i64 (V : Nat)] 3) none)
         obtain ⟨u3, c3⟩ : ∃ u, (w2.alloc (.cells #[.int .i64 (V : Nat)] 3)).cell? ⟨g, f * 31 + m, none⟩ = some u := ⟨_, (hB3.cell _).trans (Array.getElem?_eq_getElem (by omega))⟩
         have f3 : (w2.alloc (.cells #[.int .i64 (V : Nat)] 3)).frozen? ⟨g, f * 31 + m, none⟩ = false := hB3.frozen _
         have hB4 := hB3.set_ (f * 31 + m) (.pointer (some ⟨w2.heap.size, 0, none⟩))
         have c4 : ((w2.alloc (.cells #[.int .i64 (V : Nat)] 3)).setCell ⟨g, f * 31 + m, none⟩ (.pointer (some ⟨w2.heap.size, 0, none⟩))).cell? ⟨g, f * 31 + m, none⟩ = some (.pointer (some ⟨w2.heap.size, 0, none⟩)) := by
           rw [hB4.cell, Array.getElem?_setIfInBounds, if_pos rfl, if_pos (by omega)]
         have hb4 := hb3.far (p := ⟨g, f * 31 + m, none⟩) hne (.pointer (some ⟨w2.heap.size, 0, none⟩))
         have c5 := hb4.cell 0
         have hg4 : w.grownBy ((w2.alloc (.cells #[.int .i64 (V : Nat)] 3)).setCell ⟨g, f * 31 + m, none⟩ (.pointer (some ⟨w2.heap.size, 0, none⟩))) (some g) :=
           ⟨hg2.os, hg2.tape, hg2.output, by have := hg2.size; simp; omega, fun i hi hn => by
             rw [Below.heap_setCell _ _ _ i (fun e => hn (by rw [e])), (World.grownBy_alloc w2 _ none).block i (Nat.lt_of_lt_of_le hi hg2.size) (by simp)]
             exact hg2.block i hi hn⟩
         clear hT3 hB2 hB3 hB4 hb3 hb4))
    go_ret
    exact ⟨rfl, hT4, hg4⟩
  · have hcell : w.cell? ⟨g, f * 31 + m, none⟩ = some (.pointer (some ⟨b, 0, none⟩)) := (hB.cell _).trans hb
    rw [hV] at hbc
    replace hbc := hbc.cell 0
    clear cc hV hC htab hb
    go_enter Tryd.func56, Tryd.ntmps56
    go_wp2_with (fail)
    go_ret
    exact ⟨rfl, hTH.out, ⟨rfl, rfl, rfl, Nat.le_refl _, fun _ _ _ => rfl⟩⟩
theorem grown_wider {w w' : World} {g : Nat} (h : w.grownBy w' none) : w.grownBy w' (some g) :=
  ⟨h.os, h.tape, h.output, h.size, fun i hi _ => h.block i hi (by simp)⟩
set_option maxRecDepth 100000 in
set_option maxHeartbeats 4000000 in
/-- how many divisions, by a tally -/
theorem counts_any (g : Nat) : ∀ d f m, f ≤ 30 → m ≤ 30 → f + min m f < d → CountsAt g f m := by
  intro d
  induction d with
  | zero => intro f m hf hm hd; omega
  | succ d ih =>
    intro f m hf hm hd w hT
    obtain ⟨M, hM⟩ : ∃ a, min m f = a := ⟨_, rfl⟩
    have hMi : min (m : Int) f = M := by omega
    have hV := pV_min f m
    rw [hM] at hV
    obtain ⟨w1, hw1⟩ : ∃ w1, w.alloc (.cells #[.pointer (some ⟨g, 0, none⟩)] 93) = w1 := ⟨_, rfl⟩
    obtain ⟨w2, hw2⟩ : ∃ w2, w1.alloc (.cells #[.int .i64 (f : Int)] 3) = w2 := ⟨_, rfl⟩
    obtain ⟨wm, hwm⟩ : ∃ wm, w2.alloc (.cells #[.int .i64 (m : Int)] 3) = wm := ⟨_, rfl⟩
    obtain ⟨w3, hw3⟩ : ∃ w3, wm.setCell ⟨w2.heap.size, 0, none⟩ (.int .i64 (M : Int)) = w3 := ⟨_, rfl⟩
    have g1 : w.grownBy w1 none := by rw [← hw1]; exact World.grownBy_alloc w _ none
    have g2 : w1.grownBy w2 none := by rw [← hw2]; exact World.grownBy_alloc w1 _ none
    have gm : w2.grownBy wm none := by rw [← hwm]; exact World.grownBy_alloc w2 _ none
    have b1 : Blk w1 w.heap.size 93 #[.pointer (some ⟨g, 0, none⟩)] := by rw [← hw1]; exact Blk.new _ _ _
    have b2 : Blk w2 w1.heap.size 3 #[.int .i64 (f : Int)] := by rw [← hw2]; exact Blk.new _ _ _
    have bm : Blk wm w2.heap.size 3 #[.int .i64 (m : Int)] := by rw [← hwm]; exact Blk.new _ _ _
    have hlt := hT.lt
    have s1 := b1.lt
    have s2 := b2.lt
    have sm := bm.lt
    have z1 := g1.size
    have z2 := g2.size
    have z3 := gm.size
    have m3 := ((b1.none_ g2).none_ gm).cell 0
    have m4 := (b2.none_ gm).cell 0
    have m5 := bm.cell 0
    have mf := bm.frozen 0
    have b3 : Blk w3 w2.heap.size 3 #[.int .i64 (M : Int)] := by rw [← hw3]; exact bm.set_ 0 _
    have k3 : w3.cell? ⟨w.heap.size, 0, none⟩ = some (.pointer (some ⟨g, 0, none⟩)) := by rw [← hw3]; exact (((b1.none_ g2).none_ gm).far (p := ⟨w2.heap.size, 0, none⟩) (by simp only; omega) _).cell 0
    have k4 : w3.cell? ⟨w1.heap.size, 0, none⟩ = some (.int .i64 (f : Int)) := by rw [← hw3]; exact ((b2.none_ gm).far (p := ⟨w2.heap.size, 0, none⟩) (by simp only; omega) _).cell 0
    have k5 : w3.cell? ⟨w2.heap.size, 0, none⟩ = some (.int .i64 (M : Int)) := b3.cell 0
    have hs3 : w3.heap.size = wm.heap.size := by rw [← hw3]; simp
    have hgr : w.grownBy w3 none := ⟨by rw [← hw3]; exact (grown_trans (grown_trans g1 g2) gm).os, by rw [← hw3]; exact (grown_trans (grown_trans g1 g2) gm).tape, by rw [← hw3]; exact (grown_trans (grown_trans g1 g2) gm).output, by omega, fun i hi hn => by
      rw [← hw3, Below.heap_setCell _ _ _ i (by simp only; omega)]
      exact (grown_trans (grown_trans g1 g2) gm).block i hi hn⟩
    have hT3 := hT.none_ hgr
    have hC : ClC w3 g w.heap.size w1.heap.size w2.heap.size f M :=
      ⟨k3, k4, k5, by omega, by omega, by omega, by omega, by omega, by omega⟩
    clear b1 b2 bm g1 g2 gm b3 s1 s2 sm z1 z2 z3 hs3
    have hfl := hf
    have hMc : (M = m ∧ ¬ (f : Int) < m) ∨ (M = f ∧ (f : Int) < m) := by omega
    by_cases hf0 : f = 0
    · have hfb : ((f : Int) == 0) = true := by simp [hf0]
      have hR := Lib.hid (show pV f m = 1 by rw [hf0, pV_zero])
      rw [hR.out]
      clear hf0
      rcases hMc with ⟨hMm, hx⟩ | ⟨hMm, hx⟩ <;> subst hMm
      all_goals
        go_enter Tryd.func49, Tryd.ntmps49
        go_wp2_with (fail)
        go_ret
        exact ⟨rfl, hT3, grown_wider hgr⟩
    · have hfb : ((f : Int) == 0) = false := by simp; omega
      by_cases hM0 : M = 0
      · have hMb : ((M : Int) == 0) = true := by simp [hM0]
        have hR := Lib.hid (show pV f m = 0 by rw [← hV, hM0, pV_none (by omega)])
        rw [hR.out]
        obtain ⟨hMm, hx⟩ : M = m ∧ ¬ (f : Int) < m := by omega
        clear hM0
        subst hMm
        go_enter Tryd.func49, Tryd.ntmps49
        go_wp2_with (fail)
        go_ret
        exact ⟨rfl, hT3, grown_wider hgr⟩
      · have hMb : ((M : Int) == 0) = false := by simp; omega
        have cof := Lib.hid (fun w' => of_any g w.heap.size w1.heap.size w2.heap.size f M hf (by omega) (by omega) (fun w hT hC => cl_any g _ _ _ f M hf (by omega) (by omega) (ih f (M - 1) hf (by omega) (by omega)) (ih (f - M) M (by omega) (by omega) (by omega)) w hT hC) w')
        rw [← hV]
        have hCH := Lib.hid (show ClC w3.drew g w.heap.size w1.heap.size w2.heap.size f M from hC)
        clear hM0 hf0 hV hM ih hC
        rcases hMc with ⟨hMm, hx⟩ | ⟨hMm, hx⟩
        · subst hMm
          go_enter Tryd.func49, Tryd.ntmps49
          go_wp2_with (fail)
          go_region_held3 (fun w' => w'.cell? ⟨w.heap.size, 0, none⟩ = some (.pointer (some ⟨g, 0, none⟩)) ∧ w'.cell? ⟨w1.heap.size, 0, none⟩ = some (.int .i64 (f : Int)) ∧ w'.cell? ⟨w2.heap.size, 0, none⟩ = some (.int .i64 (M : Int)))
            (first | assumption | exact ⟨k3, k4, k5⟩)
            (first
              | (go_at_call 56; (with_reducible refine (cof.out _ hT3.drew hCH.out).mono ?_); rintro e w5 ⟨rfl, hT5, hg5⟩
                 have hC5 : ClC w5 g w.heap.size w1.heap.size w2.heap.size f M := ClC.next (w := w3.drew) hCH.out hg5
                 have hS5 : w5.cell? ⟨w.heap.size, 0, none⟩ = some (.pointer (some ⟨g, 0, none⟩)) ∧ w5.cell? ⟨w1.heap.size, 0, none⟩ = some (.int .i64 (f : Int)) ∧ w5.cell? ⟨w2.heap.size, 0, none⟩ = some (.int .i64 (M : Int)) := ⟨hC5.1, hC5.2.1, hC5.2.2.1⟩))
          go_wp2_with (fail)
          go_ret
          exact ⟨rfl, hT5, grown_trans (grown_wider hgr) ⟨hg5.os, hg5.tape, hg5.output, hg5.size, hg5.block⟩⟩
        · subst hMm
          go_enter Tryd.func49, Tryd.ntmps49
          go_wp2_with (fail)
          go_region_held3 (fun w' => w'.cell? ⟨w.heap.size, 0, none⟩ = some (.pointer (some ⟨g, 0, none⟩)) ∧ w'.cell? ⟨w1.heap.size, 0, none⟩ = some (.int .i64 (M : Int)) ∧ w'.cell? ⟨w2.heap.size, 0, none⟩ = some (.int .i64 (M : Int)))
            (first | assumption | exact ⟨k3, k4, k5⟩)
            (first
              | (go_at_call 56; (with_reducible refine (cof.out _ hT3.drew hCH.out).mono ?_); rintro e w5 ⟨rfl, hT5, hg5⟩
                 have hC5 : ClC w5 g w.heap.size w1.heap.size w2.heap.size M M := ClC.next (w := w3.drew) hCH.out hg5
                 have hS5 : w5.cell? ⟨w.heap.size, 0, none⟩ = some (.pointer (some ⟨g, 0, none⟩)) ∧ w5.cell? ⟨w1.heap.size, 0, none⟩ = some (.int .i64 (M : Int)) ∧ w5.cell? ⟨w2.heap.size, 0, none⟩ = some (.int .i64 (M : Int)) := ⟨hC5.1, hC5.2.1, hC5.2.2.1⟩))
          go_wp2_with (fail)
          go_ret
          exact ⟨rfl, hT5, grown_trans (grown_wider hgr) ⟨hg5.os, hg5.tape, hg5.output, hg5.size, hg5.block⟩⟩
end Go.Proofs.YtkbfmogjhjdjmaaDoor
