/- The texts DuS to DuT, joined by joinlist.py: their statements say what each proves. -/
import Derived.Test.YtkbfmogjhjdjmaaDoorDuO
import Derived.Test.YtkbfmogjhjdjmaaDoorTwC
import Derived.Test.YtkbfmogjhjdjmaaDoorDuPB
-- the text DuS
namespace Go.Proofs.YtkbfmogjhjdjmaaDoor
open Go.RowKit
namespace Du
set_option linter.unusedSimpArgs false
set_option maxRecDepth 100000 in
theorem Area_ok (A : Option Addr) (n c : Nat) (o : List Pt) (hn : o.length = n) (h3 : 3 ≤ n) (h8 : n ≤ 8) (hcap : n ≤ c) (hI : In12 o) (hD : o.Nodup) (hG : pieceOk o = true) (z : Int) (hz : areaF o = z) (hz0 : 0 ≤ z) (w : World) (hP : PtS w A o) :
    Calls Tryd.prog 21 #[.slice A n c] w fun e w' => e = .returned (.tuple #[.int .i64 z, .int .i64 1, .int .i64 0]) ∧ Below w.heap.size w w' := by
  have hchk := Lib.hid (Check_ok A n c o hn h3 h8 hcap hI hD w hP)
  have hE0 : chkE o = 0 := by unfold chkE; rw [if_pos hG]
  rw [hE0] at hchk
  have har := Lib.hid (fun w' (hb : Below w.heap.size w w') => area_ok A n c o hn h3 h8 hI.sm w' (hP.below hb))
  rw [hz] at har
  clear hP hI hD hG hE0 hn hz
  go_enter Tryd.func21, Tryd.ntmps21
  go_wp2_with (first
    | (go_at_call 6; (with_reducible refine hchk.out.mono ?_); rintro e w1 ⟨rfl, hb1⟩)
    | (go_at_call 31; (with_reducible refine (har.out _ hb1).mono ?_); rintro e w2 ⟨rfl, hb2⟩
       have hbb := hb1.trans (hb2.mono hb1.size)))
  go_ret3
  exact ⟨rfl, hbb⟩
def sqO : List Pt := [(0, 0), (2, 0), (2, 2), (0, 2)]
theorem sq_ok : In12 sqO ∧ sqO.Nodup ∧ pieceOk sqO = true ∧ areaF sqO = 8 := by
  refine ⟨?_, by decide, by decide, by decide⟩
  unfold In12
  decide
def sqC : Array Value := (ptC sqO).toArray
theorem sq_pts {w : World} {g : Nat} (h : Blk w g 35 sqC) : PtS w (some ⟨g, 0, none⟩) sqO := Or.inr ⟨g, sqC, rfl, h, fun i p hi => by
  obtain ⟨e1, e2⟩ := ptC_at sqO i p hi
  unfold sqC
  rw [List.getElem?_toArray, List.getElem?_toArray]
  exact ⟨e1, e2⟩⟩
set_option maxRecDepth 100000 in
theorem patternWorks_any (w : World) (hT : Cl.Tab w) : Calls Tryd.prog 7 #[] w fun e w' => e = .returned (.bool true) ∧ Below w.heap.size w w' := by
  obtain ⟨q1, q2, q3, q4⟩ := sq_ok
  have hA := Lib.hid (fun w' A (h : PtS w' A sqO) => Area_ok A 4 4 sqO rfl (by decide) (by decide) (by decide) q1 q2 q3 8 q4 (by decide) w' h)
  have hTb := Lib.hid (fun w' (hb : Below w.heap.size w w') => Tw.branchWorks_any w' (hT.later hb))
  clear q1 q2 q3 q4 hT
  go_enter Tryd.func7, Tryd.ntmps7
  go_wp2_with (first
    | (go_at_call 21
       have hB0 : Blk (w.alloc (.cells sqC 35)) w.heap.size 35 sqC := Blk.new w _ _
       have hb0 : Below w.heap.size w (w.alloc (.cells sqC 35)) := (Below.refl _ _).alloc (Nat.le_refl _) _
       refine (hA.out _ _ (sq_pts hB0)).mono ?_
       rintro e w1 ⟨rfl, hb1⟩
       have hbb1 := hb0.trans (hb1.mono hb0.size))
    | (go_at_call 22; (with_reducible refine (hTb.out _ hbb1).mono ?_); rintro e w2 ⟨rfl, hb2⟩
       have hbb2 := hbb1.trans (hb2.mono hbb1.size)))
  go_ret
  exact ⟨rfl, hbb2⟩
/-- a list of points that the call itself makes -/
def OwnQ (w : World) (base : Nat) (v : Value) (l : List Pt) : Prop := w.ownsRow base 35 2 v l.length (ptC l)
theorem ptC_snoc (l : List Pt) (p : Pt) : ptC (l ++ [p]) = ptC l ++ [.int .i64 p.1, .int .i64 p.2] := by simp [ptC]
section
variable {w w' : World} {base : Nat} {v : Value} {l : List Pt}
theorem OwnQ.nil (w : World) (base : Nat) : OwnQ w base (.slice none 0 0) [] := World.ownsRow_nil _ _ _ _
theorem OwnQ.keep (h : OwnQ w base v l) (hk : ∀ g, v.ownBlock = some g → w'.heap[g]? = w.heap[g]?) : OwnQ w' base v l := by
  refine ⟨h.1, ?_⟩
  rcases h.2 with h0 | ⟨g, cap, cur, rfl, hb, hg, r⟩
  · exact .inl h0
  · exact .inr ⟨g, cap, cur, rfl, hb, (hk g rfl).trans hg, r⟩
theorem OwnQ.ge (h : OwnQ w base v l) {g : Nat} (hg : v.ownBlock = some g) : base ≤ g := (World.ownsRow.lt h g hg).1
theorem OwnQ.lt (h : OwnQ w base v l) {g : Nat} (hg : v.ownBlock = some g) : g < w.heap.size := (World.ownsRow.lt h g hg).2
theorem OwnQ.callee (h : OwnQ w base v l) (hb : Below w.heap.size w w') : OwnQ w' base v l := h.keep fun g hg => hb.block g (h.lt hg)
theorem OwnQ.none_ (h : OwnQ w base v l) (hb : w.grownBy w' none) : OwnQ w' base v l := h.keep fun g hg => hb.block g (h.lt hg) (by simp)
theorem OwnQ.some_ (h : OwnQ w base v l) {k : Nat} (hb : w.grownBy w' (some k)) (hne : ∀ g, v.ownBlock = some g → g < k) : OwnQ w' base v l := h.keep fun g hg => hb.block g (h.lt hg) (fun e => by injection e with e; have := hne g hg; omega)
theorem OwnQ.form (h : OwnQ w base v l) : ∃ A c, v = .slice A l.length c ∧ l.length ≤ c := by
  rcases h.2 with ⟨rfl, h0⟩ | ⟨g, cap, cur, rfl, _, _, h2, _⟩
  · exact ⟨none, 0, by rw [h0], by omega⟩
  · exact ⟨_, _, rfl, h2⟩
theorem OwnQ.pts (h : OwnQ w base v l) : ∃ A c, v = .slice A l.length c ∧ l.length ≤ c ∧ PtS w A l := by
  rcases Nat.eq_zero_or_pos l.length with h0 | h0
  · obtain ⟨A, c, e, hc⟩ := h.form
    exact ⟨A, c, e, hc, Or.inl (List.eq_nil_of_length_eq_zero h0)⟩
  · obtain ⟨g, cap, rfl, h1, h2, h3, h4⟩ := PtO.of_own h h0
    exact ⟨_, cap, rfl, h1, h4.pts⟩
theorem wpList_pushQ {ops : Array Oper} {rest : List Oper} {o : Oper} {a : Act} {Q : Exit → Act → World → Prop} (hgd : o.guard = none) (s x : Operand)
    (ho : o.op = .call { callee := .builtin .append, args := #[s, x], argTypes := #[23, 23] }) (hs : a.eval s = v) (hown : OwnQ w base v l)
    (B c : Nat) (p : Pt) (hx : a.eval x = .slice (some ⟨B, 0, none⟩) 1 c) (hB : Blk w B 35 #[.int .i64 p.1, .int .i64 p.2]) (hlen : l.length ≤ 1000000) (hbase : base ≤ w.heap.size)
    (h : ∀ (v' : Value) (w' : World), OwnQ w' base v' (l ++ [p]) → w.grownBy w' v.ownBlock → wpList Tryd.prog ops Q rest (a.put o.dst v') w') : wpList Tryd.prog ops Q (o :: rest) a w := by
  obtain ⟨i0, hi0, hz0, hz1, hz2⟩ := info_parts infoPt
  refine wpList_append_lies w hgd s x 23 ho base 35 i0 (.agg #[.int .i64 0, .int .i64 0]) 2 16 Tryd.underlying23 hi0 hz0 hz1 hz2 rfl (by decide) v l.length (ptC l) hs hown ⟨B, 0, none⟩ 1 c [.int .i64 p.1, .int .i64 p.2] hx rfl
    (World.news_of_block hB) (by simp [Value.oneCell']) (by decide) (by simp only [maxLen]; omega) (by omega) hbase _ rfl ?_
  intro g cap w' hown' hgr hat hlt
  refine h _ w' ?_ hgr
  unfold OwnQ
  rw [ptC_snoc, List.length_append]
  exact hown'
end
end Du
end Go.Proofs.YtkbfmogjhjdjmaaDoor
-- the text DuT
namespace Go.Proofs.YtkbfmogjhjdjmaaDoor
open Go.RowKit
namespace Du
set_option linter.unusedSimpArgs false
def bytesV (bs : List Nat) : Array Value := (bs.map fun b : Nat => Value.int .u8 (b : Int)).toArray
theorem bytesV_at {bs : List Nat} {i : Nat} (h : i < bs.length) : (bytesV bs)[i]? = some (.int .u8 (bs.getD i 0 : Nat)) := by
  simp [bytesV, h, List.getD]
def inC : Array Value := (ptC inner).toArray
def arC : Array Value := (ptC around).toArray
theorem ar_cell {w : World} {g : Nat} (h : Blk w g 35 arC) {i : Nat} (hi : i < 8) : w.cell? ⟨g, i * 2, none⟩ = some (.int .i64 (around.getD i (0, 0)).1) ∧ w.cell? ⟨g, i * 2 + 1, none⟩ = some (.int .i64 (around.getD i (0, 0)).2) := by
  have hp : around[i]? = some (around.getD i (0, 0)) := by
    have : i < around.length := hi
    rw [List.getD_eq_getElem?_getD, List.getElem?_eq_getElem this]
    rfl
  obtain ⟨e1, e2⟩ := ptC_at around i _ hp
  rw [h.cell, h.cell]
  unfold arC
  rw [List.getElem?_toArray, List.getElem?_toArray]
  exact ⟨e1, e2⟩
theorem in_cell {w : World} {g : Nat} (h : Blk w g 35 inC) {i : Nat} (hi : i < 8) : w.cell? ⟨g, i * 2, none⟩ = some (.int .i64 (inner.getD i (0, 0)).1) ∧ w.cell? ⟨g, i * 2 + 1, none⟩ = some (.int .i64 (inner.getD i (0, 0)).2) := by
  have hp : inner[i]? = some (inner.getD i (0, 0)) := by
    have : i < inner.length := hi
    rw [List.getD_eq_getElem?_getD, List.getElem?_eq_getElem this]
    rfl
  obtain ⟨e1, e2⟩ := ptC_at inner i _ hp
  rw [h.cell, h.cell]
  unfold inC
  rw [List.getElem?_toArray, List.getElem?_toArray]
  exact ⟨e1, e2⟩
theorem OwnQ.rebase {w : World} {b b' : Nat} {v : Value} {l : List Pt} (h : OwnQ w b v l) (hb : b' ≤ b) : OwnQ w b' v l := by
  refine ⟨h.1, ?_⟩
  rcases h.2 with h0 | ⟨g, cap, cur, rfl, hg, r⟩
  · exact .inl h0
  · exact .inr ⟨g, cap, cur, rfl, Nat.le_trans hb hg, r⟩
theorem goS_zero (bs : List Nat) (j : Nat) (acc : List Pt) : goS bs j 0 acc = acc.reverse := by
  cases j <;> rfl
theorem goS_skip {bs : List Nat} {j k : Nat} (acc : List Pt) (h1 : k ≤ j) (h : bs.getD (7 - j) 0 % 3 = 0) : goS bs (j + 1) k acc = goS bs j k acc := by
  cases k with
  | zero => rw [goS_zero, goS_zero]
  | succ k => rw [goS, if_pos ⟨h1, h⟩]
theorem goS_in {bs : List Nat} {j k : Nat} (acc : List Pt) (h1 : ¬ (k + 1 ≤ j ∧ bs.getD (7 - j) 0 % 3 = 0)) (h : bs.getD (7 - j) 0 % 3 = 1) : goS bs (j + 1) (k + 1) acc = goS bs j k (inner.getD (7 - j) (0, 0) :: acc) := by
  rw [goS, if_neg h1, if_pos h]
theorem goS_ar {bs : List Nat} {j k : Nat} (acc : List Pt) (h1 : ¬ (k + 1 ≤ j ∧ bs.getD (7 - j) 0 % 3 = 0)) (h : ¬ bs.getD (7 - j) 0 % 3 = 1) : goS bs (j + 1) (k + 1) acc = goS bs j k (around.getD (7 - j) (0, 0) :: acc) := by
  rw [goS, if_neg h1, if_neg h]
def RetQ (w : World) (l : List Pt) (e : Ending) (w' : World) : Prop := ∃ v, e = .returned v ∧ OwnQ w' w.heap.size v l ∧ Below w.heap.size w w'
theorem reg1_lit : ptC around = [.int .i64 4, .int .i64 0, .int .i64 8, .int .i64 0, .int .i64 12, .int .i64 4, .int .i64 12, .int .i64 8, .int .i64 8, .int .i64 12, .int .i64 4, .int .i64 12, .int .i64 0, .int .i64 8, .int .i64 0, .int .i64 4] := rfl
set_option maxRecDepth 100000 in
set_option maxHeartbeats 2000000 in
theorem shape_ok (bs : List Nat) (hbs : bs.length = 8) (hb9 : ∀ b ∈ bs, b < 256) (c : Nat) (hc : c < 256) (w : World) :
    Calls Tryd.prog 4 #[.agg (bytesV bs), .int .u8 (c : Int)] w (RetQ w (goS bs 8 (3 + c % 6) [])) := by
  obtain ⟨SH, hSH⟩ : ∃ x, goS bs 8 (3 + c % 6) [] = x := ⟨_, rfl⟩
  rw [hSH]
  obtain ⟨n, hn⟩ : ∃ n, 3 + c % 6 = n := ⟨_, rfl⟩
  rw [hn] at hSH
  have HSH := Lib.hid hSH
  have hn8 : n ≤ 8 := by omega
  have hn3 : 3 ≤ n := by omega
  have hni : (3 : Int) + (c : Int) % 6 = n := by omega
  have hbsz : (bytesV bs).size = 8 := by simp [bytesV, hbs]
  have hget : Hid (∀ i, i < 8 → (bytesV bs)[i]? = some (.int .u8 (bs.getD i 0 : Nat)) ∧ bs.getD i 0 < 256) := fun i hi => ⟨bytesV_at (by omega), by
    rw [List.getD_eq_getElem?_getD, List.getElem?_eq_getElem (by omega)]
    exact hb9 _ (List.getElem_mem _)⟩
  obtain ⟨V, hV⟩ : ∃ V, bytesV bs = V := ⟨_, rfl⟩
  rw [hV] at hget hbsz ⊢
  clear hV hSH hb9 hbs hn
  go_enter Tryd.func4, Tryd.ntmps4
  go_wp2_with (first
    | (with_reducible show wpList _ _ _ (⟨some 2, .box 22 _, _, _, _, _⟩ :: _) _ _
       refine wpList_box_blk rfl 22 _ rfl V rfl ?_
       intro w1 g1 hG1 hgr1 hge1
       have hb1 := below_none (Below.refl w.heap.size w) hgr1 (Nat.le_refl _)))
  have hA := (Blk.new w1 35 arC).alloc (.cells inC 35)
  have hI := Blk.new (w1.alloc (.cells arC 35)) 35 inC
  have hG := (hG1.alloc (.cells arC 35)).alloc (.cells inC 35)
  have hbA := (hb1.alloc hb1.size (.cells arC 35)).alloc (by have := hb1.size; simp; omega) (.cells inC 35)
  rw [show (w1.alloc (.cells arC 35)).heap.size = w1.heap.size + 1 by simp] at hI
  obtain ⟨W, hW⟩ : ∃ W, W = (w1.alloc (.cells arC 35)).alloc (.cells inC 35) := ⟨_, rfl⟩
  have hW' : (w1.alloc (.cells #[.int .i64 4, .int .i64 0, .int .i64 8, .int .i64 0, .int .i64 12, .int .i64 4, .int .i64 12, .int .i64 8, .int .i64 8, .int .i64 12, .int .i64 4, .int .i64 12, .int .i64 0, .int .i64 8, .int .i64 0, .int .i64 4] 35)).alloc (.cells #[.int .i64 5, .int .i64 4, .int .i64 7, .int .i64 4, .int .i64 8, .int .i64 5, .int .i64 8, .int .i64 7, .int .i64 7, .int .i64 8, .int .i64 5, .int .i64 8, .int .i64 4, .int .i64 7, .int .i64 4, .int .i64 5] 35) = W := hW.symm
  rw [hW']
  rw [← hW] at hA hI hG hbA
  clear hW hW' hgr1 hge1 hG1 hb1
  obtain ⟨ga, hga⟩ : ∃ g, w1.heap.size = g := ⟨_, rfl⟩
  rw [hga] at hA hI ⊢
  obtain ⟨gi, hgi⟩ : ∃ g, ga + 1 = g := ⟨_, rfl⟩
  rw [hgi] at hI ⊢
  clear hga hgi
  have hg1l := hG.lt
  have hgal := hA.lt
  have hgil := hI.lt
  go_loopw [7, 33] (fun u v wr => ∃ (j k : Nat) (acc : List Pt), j ≤ 8 ∧ k ≤ j ∧ k + acc.length = n ∧ v = .int .i64 ((8 - j : Nat) : Int) ∧ OwnQ wr W.heap.size u acc.reverse ∧ Hid (goS bs j k acc = SH) ∧ Below W.heap.size W wr) (fun _ v _ => 8 - (intOf v).toNat)
  case atStart => exact ⟨8, n, [], by omega, by omega, by simp, rfl, OwnQ.nil _ _, HSH, Below.refl _ _⟩
  case round =>
    clear HSH
    obtain ⟨j0, k0, acc, hj8, hkj, hka, rfl, ho, HG, hb⟩ := hrel
    obtain ⟨wa, rfl⟩ : ∃ x, x = wr := ⟨wr, rfl⟩
    obtain ⟨Ao, co, rfl, hco⟩ := ho.form
    have hlr : acc.reverse.length = acc.length := List.length_reverse
    rw [hlr] at hco ho ⊢
    obtain ⟨m, hm⟩ : ∃ m, acc.length = m := ⟨_, rfl⟩
    rw [hm] at hco ho hka ⊢
    cases j0 with
    | zero =>
      obtain rfl : k0 = 0 := by omega
      go_wp2_with (fail)
      go_ret
      exact ⟨_, rfl, by rw [← HG.out, goS_zero]; exact ho.rebase hbA.size, hbA.trans (hb.mono hbA.size)⟩
    | succ j =>
      obtain ⟨i, hi⟩ : ∃ i, i = 7 - j := ⟨_, rfl⟩
      have hii : i + j = 7 := by omega
      have hi8 : i < 8 := by omega
      have hi8i : (i : Int) < 8 := by omega
      have hi0i : (0 : Int) ≤ i := by omega
      have hiH := Lib.hid (show 7 - j = i from hi.symm)
      have hM := Lib.hid hm
      obtain ⟨hvb, hb256⟩ := hget.out i hi8
      obtain ⟨b, hbb⟩ : ∃ b, bs.getD i 0 = b := ⟨_, rfl⟩
      rw [hbb] at hvb hb256
      have HBB := Lib.hid hbb
      have c1w : W.cell? ⟨g1, i, none⟩ = some (.int .u8 (b : Int)) := by rw [hG.cell]; exact hvb
      have c1 : wa.cell? ⟨g1, i, none⟩ = some (.int .u8 (b : Int)) := (hb.cell (p := ⟨g1, i, none⟩) hg1l).trans c1w
      obtain ⟨c2w, c3w⟩ := ar_cell hA hi8
      obtain ⟨c4w, c5w⟩ := in_cell hI hi8
      obtain ⟨PA, hPA⟩ : ∃ p, around.getD i (0, 0) = p := ⟨_, rfl⟩
      obtain ⟨PI, hPI⟩ : ∃ p, inner.getD i (0, 0) = p := ⟨_, rfl⟩
      rw [hPA] at c2w c3w
      rw [hPI] at c4w c5w
      obtain ⟨r1, r2⟩ := PA
      obtain ⟨i1, i2⟩ := PI
      simp only [] at c2w c3w c4w c5w
      have HR := Lib.hid hPA
      have HI := Lib.hid hPI
      have c2 : wa.cell? ⟨ga, i * 2, none⟩ = some (.int .i64 r1) := (hb.cell (p := ⟨ga, i * 2, none⟩) hgal).trans c2w
      have c3 : wa.cell? ⟨ga, i * 2 + 1, none⟩ = some (.int .i64 r2) := (hb.cell (p := ⟨ga, i * 2 + 1, none⟩) hgal).trans c3w
      have e8 : ((8 - (j + 1) : Nat) : Int) = i := by omega
      rw [e8]
      clear hi hm hbb hPA hPI hvb hlr c2w c3w e8
      have hm8 : m ≤ 8 := by omega
      have hm8i : (m : Int) ≤ 8 := by omega
      have h3 : b % 3 = 0 ∨ b % 3 = 1 ∨ b % 3 = 2 := by omega
      by_cases hkj2 : k0 ≤ j
      · have hgt : (n : Int) < (m : Int) + 8 - i := by omega
        rcases h3 with h3 | h3 | h3
        · have h3i : (b : Int) % 3 = 0 := by omega
          go_wp2_with (fail)
          go_roundw
          case rel => exact ⟨j, k0, acc, by omega, by omega, by rw [hM.out]; omega, by rw [show ((8 - j : Nat) : Int) = (i : Int) + 1 by omega], ho, by rw [Hid, ← HG.out, goS_skip acc hkj2 (by rw [hiH.out, HBB.out]; exact h3)], hb⟩
          case measure => simp [intOf]; omega
        · have h3i : (b : Int) % 3 = 1 := by omega
          cases k0 with
          | zero =>
            have hmn : m = n := by omega
            subst hmn
            go_wp2_with (fail)
            go_ret
            exact ⟨_, rfl, by rw [← HG.out, goS_zero]; exact ho.rebase hbA.size, hbA.trans (hb.mono hbA.size)⟩
          | succ k =>
            have hne : ((m : Int) == (n : Int)) = false := by simp; omega
            go_wp2_with (first
              | (with_reducible show wpList _ _ _ (⟨_, .alloc 35, _, _, _, _⟩ :: _) _ _
                 refine wpList_alloc_blk rfl 35 rfl _ zero_pt ?_
                 intro w3 g3 hG3 hgr3 hge3
                 have hb3 := below_none hb hgr3 hb.size
                 have ho3 := ho.none_ hgr3)
              | (with_reducible show wpList _ _ _ (⟨_, .store 35 (.tmp 10) (.tmp 66), _, _, _, _⟩ :: _) _ _
                 refine wpList_store_blk rfl 35 _ _ rfl g3 #[.int .i64 i1, .int .i64 i2] rfl rfl 35 _ hG4 info_pt rfl (by simp [Value.oneCell']) ?_
                 intro w5 hG5 hgr5
                 have hb5 := below_some hb4 hgr5 hb4.size (by have := hb.size; omega)
                 have ho5 := ho4.some_ hgr5 (fun k hk => by have := ho.lt hk; omega)
                 have f1 : w5.cell? ⟨g3, 0, none⟩ = some (.int .i64 i1) := hG5.cell 0
                 have f2 : w5.cell? ⟨g3, 1, none⟩ = some (.int .i64 i2) := hG5.cell 1)
              | (with_reducible show wpList _ _ _ (⟨_, .store 35 _ _, _, _, _, _⟩ :: _) _ _
                 refine wpList_store_blk rfl 35 _ _ rfl g3 #[.int .i64 r1, .int .i64 r2] rfl rfl 35 _ hG3 info_pt rfl (by simp [Value.oneCell']) ?_
                 intro w4 hG4 hgr4
                 have hb4 := below_some hb3 hgr4 hb3.size (by have := hb.size; omega)
                 have ho4 := ho3.some_ hgr4 (fun k hk => by have := ho.lt hk; omega)
                 have c1' : w4.cell? ⟨g1, i, none⟩ = some (.int .u8 (b : Int)) := (hb4.cell (p := ⟨g1, i, none⟩) hg1l).trans c1w
                 have c4' : w4.cell? ⟨gi, i * 2, none⟩ = some (.int .i64 i1) := (hb4.cell (p := ⟨gi, i * 2, none⟩) hgil).trans c4w
                 have c5' : w4.cell? ⟨gi, i * 2 + 1, none⟩ = some (.int .i64 i2) := (hb4.cell (p := ⟨gi, i * 2 + 1, none⟩) hgil).trans c5w)
              | (at_builtin
                 refine wpList_pushQ rfl _ _ rfl rfl (ho5.none_ (World.grownBy_alloc w5 _ none)) w5.heap.size 1 (i1, i2) rfl (Blk.new w5 _ _) (by rw [List.length_reverse, hM.out]; omega) (by have := hb5.size; show _ ≤ (w5.heap.push _).size; simp; omega) ?_
                 intro v6 w6 ho6 hgr6
                 have hb6 := (hb5.alloc hb5.size (.cells #[.int .i64 i1, .int .i64 i2] 35)).grown hgr6 (by have := hb5.size; show _ ≤ (w5.heap.push _).size; simp; omega) (fun g hg => ho5.ge hg)))
            go_roundw
            case rel => exact ⟨j, k, (i1, i2) :: acc, by omega, by omega, by rw [List.length_cons, hM.out]; omega, by rw [show ((8 - j : Nat) : Int) = (i : Int) + 1 by omega], by rw [List.reverse_cons]; exact ho6, by
              have := HG.out
              rw [goS_in acc (by rw [hiH.out, HBB.out]; omega) (by rw [hiH.out, HBB.out]; omega), hiH.out, HI.out] at this
              exact this, hb6⟩
            case measure => simp [intOf]; omega
        · have h3i : (b : Int) % 3 = 2 := by omega
          cases k0 with
          | zero =>
            have hmn : m = n := by omega
            subst hmn
            go_wp2_with (fail)
            go_ret
            exact ⟨_, rfl, by rw [← HG.out, goS_zero]; exact ho.rebase hbA.size, hbA.trans (hb.mono hbA.size)⟩
          | succ k =>
            have hne : ((m : Int) == (n : Int)) = false := by simp; omega
            go_wp2_with (first
              | (with_reducible show wpList _ _ _ (⟨_, .alloc 35, _, _, _, _⟩ :: _) _ _
                 refine wpList_alloc_blk rfl 35 rfl _ zero_pt ?_
                 intro w3 g3 hG3 hgr3 hge3
                 have hb3 := below_none hb hgr3 hb.size
                 have ho3 := ho.none_ hgr3)
              | (with_reducible show wpList _ _ _ (⟨_, .store 35 _ _, _, _, _, _⟩ :: _) _ _
                 refine wpList_store_blk rfl 35 _ _ rfl g3 #[.int .i64 r1, .int .i64 r2] rfl rfl 35 _ hG3 info_pt rfl (by simp [Value.oneCell']) ?_
                 intro w4 hG4 hgr4
                 have hb4 := below_some hb3 hgr4 hb3.size (by have := hb.size; omega)
                 have ho4 := ho3.some_ hgr4 (fun k hk => by have := ho.lt hk; omega)
                 have c1' : w4.cell? ⟨g1, i, none⟩ = some (.int .u8 (b : Int)) := (hb4.cell (p := ⟨g1, i, none⟩) hg1l).trans c1w
                 have f1 : w4.cell? ⟨g3, 0, none⟩ = some (.int .i64 r1) := hG4.cell 0
                 have f2 : w4.cell? ⟨g3, 1, none⟩ = some (.int .i64 r2) := hG4.cell 1)
              | (at_builtin
                 refine wpList_pushQ rfl _ _ rfl rfl (ho4.none_ (World.grownBy_alloc w4 _ none)) w4.heap.size 1 (r1, r2) rfl (Blk.new w4 _ _) (by rw [List.length_reverse, hM.out]; omega) (by have := hb4.size; show _ ≤ (w4.heap.push _).size; simp; omega) ?_
                 intro v6 w6 ho6 hgr6
                 have hb6 := (hb4.alloc hb4.size (.cells #[.int .i64 r1, .int .i64 r2] 35)).grown hgr6 (by have := hb4.size; show _ ≤ (w4.heap.push _).size; simp; omega) (fun g hg => ho4.ge hg)))
            go_roundw
            case rel => exact ⟨j, k, (r1, r2) :: acc, by omega, by omega, by rw [List.length_cons, hM.out]; omega, by rw [show ((8 - j : Nat) : Int) = (i : Int) + 1 by omega], by rw [List.reverse_cons]; exact ho6, by
              have := HG.out
              rw [goS_ar acc (by rw [hiH.out, HBB.out]; omega) (by rw [hiH.out, HBB.out]; omega), hiH.out, HR.out] at this
              exact this, hb6⟩
            case measure => simp [intOf]; omega
      · obtain ⟨k, rfl⟩ : ∃ k, k0 = k + 1 := ⟨j, by omega⟩
        have hgt : ¬ (n : Int) < (m : Int) + 8 - i := by omega
        have hne : ((m : Int) == (n : Int)) = false := by simp; omega
        rcases h3 with h3 | h3 | h3
        · have h3i : (b : Int) % 3 = 0 := by omega
          go_wp2_with (first
            | (with_reducible show wpList _ _ _ (⟨_, .alloc 35, _, _, _, _⟩ :: _) _ _
               refine wpList_alloc_blk rfl 35 rfl _ zero_pt ?_
               intro w3 g3 hG3 hgr3 hge3
               have hb3 := below_none hb hgr3 hb.size
               have ho3 := ho.none_ hgr3)
            | (with_reducible show wpList _ _ _ (⟨_, .store 35 _ _, _, _, _, _⟩ :: _) _ _
               refine wpList_store_blk rfl 35 _ _ rfl g3 #[.int .i64 r1, .int .i64 r2] rfl rfl 35 _ hG3 info_pt rfl (by simp [Value.oneCell']) ?_
               intro w4 hG4 hgr4
               have hb4 := below_some hb3 hgr4 hb3.size (by have := hb.size; omega)
               have ho4 := ho3.some_ hgr4 (fun k hk => by have := ho.lt hk; omega)
               have c1' : w4.cell? ⟨g1, i, none⟩ = some (.int .u8 (b : Int)) := (hb4.cell (p := ⟨g1, i, none⟩) hg1l).trans c1w
               have f1 : w4.cell? ⟨g3, 0, none⟩ = some (.int .i64 r1) := hG4.cell 0
               have f2 : w4.cell? ⟨g3, 1, none⟩ = some (.int .i64 r2) := hG4.cell 1)
            | (at_builtin
               refine wpList_pushQ rfl _ _ rfl rfl (ho4.none_ (World.grownBy_alloc w4 _ none)) w4.heap.size 1 (r1, r2) rfl (Blk.new w4 _ _) (by rw [List.length_reverse, hM.out]; omega) (by have := hb4.size; show _ ≤ (w4.heap.push _).size; simp; omega) ?_
               intro v6 w6 ho6 hgr6
               have hb6 := (hb4.alloc hb4.size (.cells #[.int .i64 r1, .int .i64 r2] 35)).grown hgr6 (by have := hb4.size; show _ ≤ (w4.heap.push _).size; simp; omega) (fun g hg => ho4.ge hg)))
          go_roundw
          case rel => exact ⟨j, k, (r1, r2) :: acc, by omega, by omega, by rw [List.length_cons, hM.out]; omega, by rw [show ((8 - j : Nat) : Int) = (i : Int) + 1 by omega], by rw [List.reverse_cons]; exact ho6, by
            have := HG.out
            rw [goS_ar acc (by rw [hiH.out, HBB.out]; omega) (by rw [hiH.out, HBB.out]; omega), hiH.out, HR.out] at this
            exact this, hb6⟩
          case measure => simp [intOf]; omega
        · have h3i : (b : Int) % 3 = 1 := by omega
          go_wp2_with (first
            | (with_reducible show wpList _ _ _ (⟨_, .alloc 35, _, _, _, _⟩ :: _) _ _
               refine wpList_alloc_blk rfl 35 rfl _ zero_pt ?_
               intro w3 g3 hG3 hgr3 hge3
               have hb3 := below_none hb hgr3 hb.size
               have ho3 := ho.none_ hgr3)
            | (with_reducible show wpList _ _ _ (⟨_, .store 35 (.tmp 10) (.tmp 66), _, _, _, _⟩ :: _) _ _
               refine wpList_store_blk rfl 35 _ _ rfl g3 #[.int .i64 i1, .int .i64 i2] rfl rfl 35 _ hG4 info_pt rfl (by simp [Value.oneCell']) ?_
               intro w5 hG5 hgr5
               have hb5 := below_some hb4 hgr5 hb4.size (by have := hb.size; omega)
               have ho5 := ho4.some_ hgr5 (fun k hk => by have := ho.lt hk; omega)
               have f1 : w5.cell? ⟨g3, 0, none⟩ = some (.int .i64 i1) := hG5.cell 0
               have f2 : w5.cell? ⟨g3, 1, none⟩ = some (.int .i64 i2) := hG5.cell 1)
            | (with_reducible show wpList _ _ _ (⟨_, .store 35 _ _, _, _, _, _⟩ :: _) _ _
               refine wpList_store_blk rfl 35 _ _ rfl g3 #[.int .i64 r1, .int .i64 r2] rfl rfl 35 _ hG3 info_pt rfl (by simp [Value.oneCell']) ?_
               intro w4 hG4 hgr4
               have hb4 := below_some hb3 hgr4 hb3.size (by have := hb.size; omega)
               have ho4 := ho3.some_ hgr4 (fun k hk => by have := ho.lt hk; omega)
               have c1' : w4.cell? ⟨g1, i, none⟩ = some (.int .u8 (b : Int)) := (hb4.cell (p := ⟨g1, i, none⟩) hg1l).trans c1w
               have c4' : w4.cell? ⟨gi, i * 2, none⟩ = some (.int .i64 i1) := (hb4.cell (p := ⟨gi, i * 2, none⟩) hgil).trans c4w
               have c5' : w4.cell? ⟨gi, i * 2 + 1, none⟩ = some (.int .i64 i2) := (hb4.cell (p := ⟨gi, i * 2 + 1, none⟩) hgil).trans c5w)
            | (at_builtin
               refine wpList_pushQ rfl _ _ rfl rfl (ho5.none_ (World.grownBy_alloc w5 _ none)) w5.heap.size 1 (i1, i2) rfl (Blk.new w5 _ _) (by rw [List.length_reverse, hM.out]; omega) (by have := hb5.size; show _ ≤ (w5.heap.push _).size; simp; omega) ?_
               intro v6 w6 ho6 hgr6
               have hb6 := (hb5.alloc hb5.size (.cells #[.int .i64 i1, .int .i64 i2] 35)).grown hgr6 (by have := hb5.size; show _ ≤ (w5.heap.push _).size; simp; omega) (fun g hg => ho5.ge hg)))
          go_roundw
          case rel => exact ⟨j, k, (i1, i2) :: acc, by omega, by omega, by rw [List.length_cons, hM.out]; omega, by rw [show ((8 - j : Nat) : Int) = (i : Int) + 1 by omega], by rw [List.reverse_cons]; exact ho6, by
            have := HG.out
            rw [goS_in acc (by rw [hiH.out, HBB.out]; omega) (by rw [hiH.out, HBB.out]; omega), hiH.out, HI.out] at this
            exact this, hb6⟩
          case measure => simp [intOf]; omega
        · have h3i : (b : Int) % 3 = 2 := by omega
          go_wp2_with (first
            | (with_reducible show wpList _ _ _ (⟨_, .alloc 35, _, _, _, _⟩ :: _) _ _
               refine wpList_alloc_blk rfl 35 rfl _ zero_pt ?_
               intro w3 g3 hG3 hgr3 hge3
               have hb3 := below_none hb hgr3 hb.size
               have ho3 := ho.none_ hgr3)
            | (with_reducible show wpList _ _ _ (⟨_, .store 35 _ _, _, _, _, _⟩ :: _) _ _
               refine wpList_store_blk rfl 35 _ _ rfl g3 #[.int .i64 r1, .int .i64 r2] rfl rfl 35 _ hG3 info_pt rfl (by simp [Value.oneCell']) ?_
               intro w4 hG4 hgr4
               have hb4 := below_some hb3 hgr4 hb3.size (by have := hb.size; omega)
               have ho4 := ho3.some_ hgr4 (fun k hk => by have := ho.lt hk; omega)
               have c1' : w4.cell? ⟨g1, i, none⟩ = some (.int .u8 (b : Int)) := (hb4.cell (p := ⟨g1, i, none⟩) hg1l).trans c1w
               have f1 : w4.cell? ⟨g3, 0, none⟩ = some (.int .i64 r1) := hG4.cell 0
               have f2 : w4.cell? ⟨g3, 1, none⟩ = some (.int .i64 r2) := hG4.cell 1)
            | (at_builtin
               refine wpList_pushQ rfl _ _ rfl rfl (ho4.none_ (World.grownBy_alloc w4 _ none)) w4.heap.size 1 (r1, r2) rfl (Blk.new w4 _ _) (by rw [List.length_reverse, hM.out]; omega) (by have := hb4.size; show _ ≤ (w4.heap.push _).size; simp; omega) ?_
               intro v6 w6 ho6 hgr6
               have hb6 := (hb4.alloc hb4.size (.cells #[.int .i64 r1, .int .i64 r2] 35)).grown hgr6 (by have := hb4.size; show _ ≤ (w4.heap.push _).size; simp; omega) (fun g hg => ho4.ge hg)))
          go_roundw
          case rel => exact ⟨j, k, (r1, r2) :: acc, by omega, by omega, by rw [List.length_cons, hM.out]; omega, by rw [show ((8 - j : Nat) : Int) = (i : Int) + 1 by omega], by rw [List.reverse_cons]; exact ho6, by
            have := HG.out
            rw [goS_ar acc (by rw [hiH.out, HBB.out]; omega) (by rw [hiH.out, HBB.out]; omega), hiH.out, HR.out] at this
            exact this, hb6⟩
          case measure => simp [intOf]; omega
end Du
end Go.Proofs.YtkbfmogjhjdjmaaDoor
