/- The texts DuL to DuN, joined by joinlist.py: their statements say what each proves. -/
import Derived.Test.YtkbfmogjhjdjmaaDoorDuEH
import Derived.Lib.SliceRun
import Derived.Deep.RegionLaw
import Derived.Deep.RegionHeldLaw
import Derived.Test.YtkbfmogjhjdjmaaDoorDuK
import Derived.Test.YtkbfmogjhjdjmaaDoorPush
import Derived.Deep.AppendLies
-- the text DuL
namespace Go.Proofs.YtkbfmogjhjdjmaaDoor
open Go.RowKit
namespace Du
set_option linter.unusedSimpArgs false
theorem Blk.setCells {g : Nat} {t : TypeId} : ∀ (vs : List Value) (o : Nat) (w : World) (cs : Array Value), Blk w g t cs → o + vs.length ≤ cs.size →
    ∃ cs', Blk (w.setCells g o vs) g t cs' ∧ cs'.size = cs.size ∧ (∀ j, j < vs.length → cs'[o + j]? = vs[j]?) ∧ ∀ k, k < o ∨ o + vs.length ≤ k → cs'[k]? = cs[k]?
  | [], o, w, cs, h, _ => ⟨cs, h, rfl, fun j hj => absurd hj (by simp), fun _ _ => rfl⟩
  | v :: r, o, w, cs, h, hs => by
    simp only [List.length_cons] at hs
    obtain ⟨cs', h1, h2, h3, h4⟩ := Blk.setCells r (o + 1) _ _ (h.set_ o v) (by simp; omega)
    refine ⟨cs', h1, by simpa using h2, fun j hj => ?_, fun k hk => ?_⟩
    · cases j with
      | zero =>
        rw [h4 _ (Or.inl (by omega))]
        simp [show o < cs.size by omega]
      | succ j =>
        rw [show o + (j + 1) = o + 1 + j by omega, h3 j (by simpa using hj)]
        rfl
    · simp only [List.length_cons] at hk
      rw [h4 k (by omega), Array.getElem?_setIfInBounds_ne (by omega)]
theorem setCells_grown (w : World) (g : Nat) : ∀ (vs : List Value) (o : Nat), w.grownBy (w.setCells g o vs) (some g) := by
  intro vs
  induction vs generalizing w with
  | nil => intro o; exact ⟨rfl, rfl, rfl, Nat.le_refl _, fun _ _ _ => rfl⟩
  | cons v r ih =>
    intro o
    have h := ih (w.setCell ⟨g, o, none⟩ v) (o + 1)
    have hk : (w.setCell ⟨g, o, none⟩ v).heap.size = w.heap.size := by simp [World.setCell]
    exact ⟨h.os, h.tape, h.output, by have := h.size; rw [hk] at this; exact this, fun i hi hne => (h.block i (by omega) hne).trans (Below.heap_setCell w _ _ i (fun e => hne (by rw [e])))⟩
/-- points in a whole block that lies from base on, room for cap of them -/
def PtO (w : World) (base g cap : Nat) (ps : List Pt) : Prop := base ≤ g ∧ ∃ cs, Blk w g 35 cs ∧ cs.size = cap * 2 ∧ ps.length ≤ cap ∧ ∀ (i : Nat) (p : Pt), ps[i]? = some p → cs[i * 2]? = some (.int .i64 p.1) ∧ cs[i * 2 + 1]? = some (.int .i64 p.2)
theorem PtO.pts {w : World} {base g cap : Nat} {ps : List Pt} (h : PtO w base g cap ps) : PtS w (some ⟨g, 0, none⟩) ps := by
  obtain ⟨_, cs, hB, _, _, hc⟩ := h
  exact Or.inr ⟨g, cs, rfl, hB, hc⟩
theorem PtO.below {w w' : World} {base g cap : Nat} {ps : List Pt} (h : PtO w base g cap ps) (hb : Below w.heap.size w w') : PtO w' base g cap ps := by
  obtain ⟨h1, cs, hB, h2, h3, hc⟩ := h
  exact ⟨h1, cs, hB.callee hb, h2, h3, hc⟩
theorem PtO.some_ {w w' : World} {base g cap k : Nat} {ps : List Pt} (h : PtO w base g cap ps) (hb : w.grownBy w' (some k)) (hne : g ≠ k) : PtO w' base g cap ps := by
  obtain ⟨h1, cs, hB, h2, h3, hc⟩ := h
  exact ⟨h1, cs, hB.some_ hb hne, h2, h3, hc⟩
def ptC (ps : List Pt) : List Value := ps.flatMap fun p => [.int .i64 p.1, .int .i64 p.2]
theorem ptC_length : ∀ ps : List Pt, (ptC ps).length = ps.length * 2
  | [] => rfl
  | p :: r => by simp [ptC] at *; have := ptC_length r; simp [ptC] at this; omega
theorem ptC_cons (p : Pt) (r : List Pt) : ptC (p :: r) = .int .i64 p.1 :: .int .i64 p.2 :: ptC r := by simp [ptC]
theorem ptC_at : ∀ (ps : List Pt) (i : Nat) (p : Pt), ps[i]? = some p → (ptC ps)[i * 2]? = some (.int .i64 p.1) ∧ (ptC ps)[i * 2 + 1]? = some (.int .i64 p.2)
  | [], i, p, h => by simp at h
  | q :: r, 0, p, h => by
    have e : q = p := by simpa using h
    subst e
    rw [ptC_cons]
    exact ⟨rfl, rfl⟩
  | q :: r, i + 1, p, h => by
    rw [ptC_cons, show (i + 1) * 2 = i * 2 + 1 + 1 by omega]
    exact ptC_at r i p (by simpa using h)
theorem ptC_get (ps : List Pt) (k : Nat) (u : Value) (h : (ptC ps)[k]? = some u) : ∃ i p, ps[i]? = some p ∧ ((k = i * 2 ∧ u = .int .i64 p.1) ∨ (k = i * 2 + 1 ∧ u = .int .i64 p.2)) := by
  have hk := (List.getElem?_eq_some_iff.1 h).1
  rw [ptC_length] at hk
  have hi : k / 2 < ps.length := by omega
  have hp := List.getElem?_eq_getElem hi
  obtain ⟨e1, e2⟩ := ptC_at ps _ _ hp
  refine ⟨k / 2, _, hp, ?_⟩
  rcases Nat.mod_two_eq_zero_or_one k with h0 | h0
  · left
    have : k = k / 2 * 2 := by omega
    refine ⟨this, ?_⟩
    rw [← this, h] at e1
    injection e1
  · right
    have : k = k / 2 * 2 + 1 := by omega
    refine ⟨this, ?_⟩
    rw [← this, h] at e2
    injection e2
theorem ptC_one (ps : List Pt) : ∀ u ∈ ptC ps, u.oneCell' = true := fun u hu => by
  obtain ⟨p, _, hp⟩ := List.mem_flatMap.1 hu
  simp only [List.mem_cons, List.not_mem_nil, or_false] at hp
  rcases hp with rfl | rfl <;> rfl
theorem PtO.of_own {w : World} {base n : Nat} {v : Value} {ps : List Pt} (h : w.ownsRow base 35 2 v n (ptC ps)) (h0 : 0 < n) : ∃ g cap, v = .slice (some ⟨g, 0, none⟩) n cap ∧ n ≤ cap ∧ cap ≤ maxLen ∧ ps.length = n ∧ PtO w base g cap ps := by
  have hl : ps.length = n := by have := h.1; rw [ptC_length] at this; omega
  rcases h.2 with ⟨_, h0'⟩ | ⟨g, cap, cur, rfl, hb, hg, hnc, hcm, hsz, htk⟩
  · omega
  · refine ⟨g, cap, rfl, hnc, hcm, hl, hb, cur, hg, hsz, by omega, fun i p hi => ?_⟩
    have hil := (List.getElem?_eq_some_iff.1 hi).1
    obtain ⟨e1, e2⟩ := ptC_at ps i p hi
    rw [← htk] at e1 e2
    rw [List.getElem?_take, if_pos (by omega), Array.getElem?_toList] at e1 e2
    exact ⟨e1, e2⟩
theorem infoPt : (Tryd.prog.info? 35).map (fun i => (i.zero, i.size, i.bytes)) = some (some (.agg #[.int .i64 0, .int .i64 0]), 2, 16) := by kernel_rfl
theorem clear_pt (ty : TypeId) (w : World) (g o c : Nat) (t : TypeId) (cs : Array Value) (hB : Blk w g t cs) (ho : o + 2 ≤ cs.size) :
    (Builtin.clear_ #[46] ty #[.slice (some ⟨g, o, none⟩) 1 c]).run Tryd.prog w = .ok (.tuple #[]) (w.setCells g o [.int .i64 0, .int .i64 0]) := by
  have hz : (Builtin.zeroCells (Value.cells (.agg #[.int .i64 0, .int .i64 0])) 1).toList = [.int .i64 0, .int .i64 0] := by kernel_rfl
  have hst := run_storeCells_cells (P := Tryd.prog) g o [.int .i64 0, .int .i64 0] 0 w (fun j hj => by rw [hB.cell, Array.getElem?_eq_getElem (by simp at hj; omega)]; rfl) (fun j hj => hB.frozen _) (by simp [Value.oneCell'])
  simp only [Nat.add_zero] at hst
  simp [Builtin.clear_, run_underlying Tryd.underlying46, zero_pt, hz, hst]
set_option maxRecDepth 100000 in
set_option maxHeartbeats 1000000 in
theorem delete_ok (base g n cap i j : Nat) (ps : List Pt) (hn : ps.length = n) (hj : j = i + 1) (hi : i < n) (h8 : n ≤ 100) (hcap : n ≤ cap) (hcm : cap ≤ maxLen) (w : World) (hP : PtO w base g cap ps) :
    Calls Tryd.prog 16 #[.slice (some ⟨g, 0, none⟩) n cap, .int .i64 i, .int .i64 j] w fun e w' => e = .returned (.slice (some ⟨g, 0, none⟩) (n - 1) cap) ∧ PtO w' base g cap (ps.eraseIdx i) ∧ w.grownBy w' (some g) := by
  unfold maxLen at hcm
  obtain ⟨hbg, cs, hB, hsz, _, hc⟩ := hP
  obtain ⟨i0, hi0, hz0, hz1, hz2⟩ := info_parts infoPt
  obtain ⟨m, hm⟩ : ∃ m, m = n - j := ⟨_, rfl⟩
  obtain ⟨n1, hn1⟩ : ∃ n1, n1 = n - 1 := ⟨_, rfl⟩
  obtain ⟨news, hnews⟩ : ∃ news, news = ptC (ps.drop j) := ⟨_, rfl⟩
  have hlen : news.length = m * 2 := by rw [hnews, ptC_length, List.length_drop, hn, hm]
  obtain ⟨cs1, hB1, hs1, hin, hout⟩ := Blk.setCells news (i * 2) w.drew cs hB.drew (by rw [hlen]; omega)
  obtain ⟨cs2, hB2, hs2, hin2, hout2⟩ := Blk.setCells [.int .i64 0, .int .i64 0] (n1 * 2) _ cs1 hB1 (by simp; omega)
  have hgr : w.grownBy ((w.drew.setCells g (i * 2) news).setCells g (n1 * 2) [.int .i64 0, .int .i64 0]) (some g) := by
    have h1 := setCells_grown w.drew g news (i * 2)
    have h2 := setCells_grown (w.drew.setCells g (i * 2) news) g [.int .i64 0, .int .i64 0] (n1 * 2)
    exact ⟨h2.os.trans h1.os, h2.tape.trans h1.tape, h2.output.trans h1.output, Nat.le_trans h1.size h2.size, fun k hk hne => (h2.block k (Nat.lt_of_lt_of_le hk h1.size) hne).trans (h1.block k hk hne)⟩
  have hpost : PtO ((w.drew.setCells g (i * 2) news).setCells g (n1 * 2) [.int .i64 0, .int .i64 0]) base g cap (ps.eraseIdx i) := by
    refine ⟨hbg, cs2, hB2, by omega, by rw [List.length_eraseIdx]; split <;> omega, fun k p hk => ?_⟩
    have hkl := (List.getElem?_eq_some_iff.1 hk).1
    rw [List.length_eraseIdx, if_pos (by omega)] at hkl
    rw [hout2 _ (Or.inl (by omega)), hout2 _ (Or.inl (by omega))]
    rw [List.getElem?_eraseIdx] at hk
    split at hk
    · rw [hout _ (Or.inl (by omega)), hout _ (Or.inl (by omega))]
      exact hc k p hk
    · obtain ⟨t, rfl⟩ : ∃ t, k = i + t := ⟨k - i, by omega⟩
      have ht : (ps.drop j)[t]? = some p := by rw [List.getElem?_drop, ← hk]; congr 1; omega
      obtain ⟨e1, e2⟩ := ptC_at _ _ _ ht
      have f1 := hin (t * 2) (by rw [hlen]; omega)
      have f2 := hin (t * 2 + 1) (by rw [hlen]; omega)
      rw [hnews] at f1 f2
      rw [show (i + t) * 2 = i * 2 + t * 2 by omega, f1, show i * 2 + t * 2 + 1 = i * 2 + (t * 2 + 1) by omega, f2]
      exact ⟨e1, e2⟩
  have HPOST := Lib.hid (And.intro hpost hgr)
  have hcl : ∀ ty, (Builtin.clear_ #[46] ty #[.slice (some ⟨g, n1 * 2, none⟩) 1 (cap - n1)]).run Tryd.prog (w.drew.setCells g (i * 2) news) = .ok (.tuple #[]) ((w.drew.setCells g (i * 2) news).setCells g (n1 * 2) [.int .i64 0, .int .i64 0]) := fun ty =>
    clear_pt ty _ g (n1 * 2) (cap - n1) 35 cs1 hB1 (by omega)
  have HCL := Lib.hid hcl
  obtain ⟨A, hA, hsrc⟩ : ∃ A : Addr, (if cap = j then some (⟨g, 0, none⟩ : Addr) else some ⟨g, j * 2, none⟩) = some A ∧ Hid (∀ t u, news[t]? = some u → w.drew.cell? (A.add t) = some u) := by
    by_cases h : cap = j
    · refine ⟨⟨g, 0, none⟩, by simp [h], fun t u hu => ?_⟩
      have h0 : news.length = 0 := by rw [hlen]; omega
      rw [List.length_eq_zero_iff.1 h0] at hu
      simp at hu
    · refine ⟨⟨g, j * 2, none⟩, by simp [h], fun t u hu => ?_⟩
      rw [hnews] at hu
      obtain ⟨k, p, hk, hor⟩ := ptC_get _ _ _ hu
      rw [List.getElem?_drop] at hk
      obtain ⟨e1, e2⟩ := hc _ _ hk
      rw [Addr.add_lit]
      show w.cell? _ = _
      rw [hB.cell]
      rcases hor with ⟨rfl, rfl⟩ | ⟨rfl, rfl⟩
      · rw [show j * 2 + k * 2 = (j + k) * 2 by omega]; exact e1
      · rw [show j * 2 + (k * 2 + 1) = (j + k) * 2 + 1 by omega]; exact e2
  have s1 := Lib.hid hlen
  have s2 : Hid (∀ u ∈ news, u.oneCell' = true) := by rw [hnews]; exact ptC_one _
  have s3 : Hid (∀ t, t < news.length → (w.drew.cell? ⟨g, 0 + i * 2 + t, none⟩).isSome = true ∧ w.drew.frozen? ⟨g, 0 + i * 2 + t, none⟩ = false) := by
    intro t ht
    rw [hlen] at ht
    refine ⟨?_, hB.drew.frozen _⟩
    rw [hB.drew.cell, Array.getElem?_eq_getElem (by omega)]
    rfl
  have hjn : j ≤ n := by omega
  have hij : i ≤ j := by omega
  have hne : ((i : Int) == (j : Int)) = false := by simp; omega
  have him : i + m = n1 := by omega
  have hnn : n - n1 = 1 := by omega
  have hjI : (j : Int) ≤ n := by omega
  have hijI : (i : Int) ≤ j := by omega
  have hi0I : (0 : Int) ≤ i := by omega
  have hicap : (i : Int) ≤ cap := by omega
  have hjcap : (j : Int) ≤ cap := by omega
  have hnm : ((n - 1 : Nat) : Int) = n1 := by omega
  have HM := Lib.hid hm
  have HN := Lib.hid hn1
  have HIM := Lib.hid him
  have HNN := Lib.hid hnn
  have hn1I : (n1 : Int) ≤ n := by omega
  have hn1c : (n1 : Int) ≤ cap := by omega
  have hn10 : (0 : Int) ≤ n1 := by omega
  have hnc : (n : Int) ≤ cap := by omega
  have hcapj : ¬ cap = n1 := by omega
  clear hnews hlen hin hout hin2 hout2 hs1 hs2 hB1 hB2 hpost hgr hcl hc hB hsz hm hj hn hn1 hnm
  have hnj : n - j = m := HM.out.symm
  go_enter Tryd.func16, Tryd.ntmps16
  go_wp2_with (fail)
  go_region_law (refine step_append_room rfl (.tmp 22) (.tmp 25) 46 rfl 35 i0 2 Tryd.underlying46 hi0 hz1 g 0 i cap (by simp [Act.eval, Act.put]) A m (cap - j) news (by simp [Act.eval, Act.put]) s1.out hsrc.out s2.out (by have := HM.out; omega) s3.out ?_)
  have hcl2 := HCL.out
  go_wp2_with (fail)
  go_ret
  exact ⟨by rw [← HN.out]; rfl, HPOST.out.1, HPOST.out.2⟩
set_option maxRecDepth 100000 in
set_option maxHeartbeats 1000000 in
theorem clone_ok (A : Option Addr) (n c : Nat) (ps : List Pt) (hn : ps.length = n) (h0 : 0 < n) (h8 : n ≤ 100) (w : World) (hP : PtS w A ps) :
    Calls Tryd.prog 13 #[.slice A n c] w fun e w' => (∃ g cap, e = .returned (.slice (some ⟨g, 0, none⟩) n cap) ∧ n ≤ cap ∧ cap ≤ maxLen ∧ PtO w' w.heap.size g cap ps) ∧ Below w.heap.size w w' := by
  obtain ⟨g, rfl, hgl, hcell⟩ := hP.cells (by omega)
  obtain ⟨i0, hi0, hz0, hz1, hz2⟩ := info_parts infoPt
  have q22 : ∀ (w : World) (a : Option Addr) (n c n' c' : Nat), (binOp .eql 23 (.slice a n c) (.slice none n' c')).run Tryd.prog w = .ok (.bool a.isNone) w := fun w a n c n' c' => Lib.run_eql_slice_nil w _ _ a n c n' c' Tryd.underlying23
  have HH := Lib.hid hcell
  have HL := Lib.hid hn
  clear hcell hP hn
  go_enter Tryd.func13, Tryd.ntmps13
  go_wp2_with (at_builtin; refine wpList_append_own _ rfl _ _ 23 rfl w.heap.size 35 i0 (.agg #[.int .i64 0, .int .i64 0]) 2 16 Tryd.underlying23 hi0 hz0 hz1 hz2 rfl (by decide) _ _ _ rfl (World.ownsRow_made w #[] 0 (Nat.le_refl _) (Nat.zero_le _) rfl) ⟨g, 0, none⟩ n c (ptC ps) rfl ?qc1 ?qc2 ?qc3 ?qc4 ?qc5 ?qc6 ?_)
  case qc1 => rw [ptC_length, HL.out]
  case qc2 =>
    intro j u hj
    obtain ⟨k, p, hk, hor⟩ := ptC_get _ _ _ hj
    obtain ⟨e1, e2⟩ := HH.out (w.alloc (.cells #[] 35)) ((Below.refl _ w).alloc (Nat.le_refl _) _) k p hk
    rw [Addr.add_lit]
    rcases hor with ⟨rfl, rfl⟩ | ⟨rfl, rfl⟩
    · rw [Nat.zero_add]; exact e1
    · rw [Nat.zero_add]; exact e2
  case qc3 => exact ptC_one _
  case qc4 => unfold maxLen; omega
  case qc5 => omega
  case qc6 => simp
  intro v' w1 hown hgrow hnil
  go_wp2_with (fail)
  go_ret
  obtain ⟨g', cap, rfl, h1, h2, _, h3⟩ := PtO.of_own (by simpa using hown) h0
  exact ⟨⟨g', cap, rfl, h1, h2, h3⟩, ((Below.refl _ w).alloc (Nat.le_refl _) _).grown hgrow (by simp) (by intro k hk; simp [Value.ownBlock] at hk; omega)⟩
end Du
end Go.Proofs.YtkbfmogjhjdjmaaDoor
-- the text DuM
namespace Go.Proofs.YtkbfmogjhjdjmaaDoor
open Go.RowKit
namespace Du
set_option linter.unusedSimpArgs false
theorem ear_eq (o : List Pt) (i : Nat) : earO o i = (o.length == 3 || cutO o ((i + o.length - 1) % o.length) ((i + 1) % o.length)) := rfl
set_option maxRecDepth 100000 in
set_option maxHeartbeats 1000000 in
theorem ear_ok (A : Option Addr) (n c i : Nat) (o : List Pt) (hn : o.length = n) (h3 : 3 ≤ n) (h8 : n ≤ 8) (hi : i < n) (hs : SmL 12 o) (w : World) (hP : PtS w A o) :
    Calls Tryd.prog 14 #[.slice A n c, .int .i64 i] w fun e w' => e = .returned (.bool (earO o i)) ∧ Below w.heap.size w w' := by
  obtain ⟨E, hE⟩ : ∃ E, earO o i = E := ⟨_, rfl⟩
  rw [ear_eq, hn] at hE
  rw [ear_eq, hn, hE]
  have hn0 : ((n : Int) == 0) = false := by simp; omega
  have hnz : ¬ n = 0 := by omega
  obtain ⟨a, ha⟩ : ∃ a, (i + n - 1) % n = a := ⟨_, rfl⟩
  obtain ⟨b, hb⟩ : ∃ b, (i + 1) % n = b := ⟨_, rfl⟩
  have han : a < n := by rw [← ha]; exact Nat.mod_lt _ (by omega)
  have hbn : b < n := by rw [← hb]; exact Nat.mod_lt _ (by omega)
  have t1 : Int.tmod ((i : Int) + n - 1) n = a := by
    rw [← ha, ← tmod_nat]
    congr 1
    omega
  have t2 : Int.tmod ((i : Int) + 1) n = b := by
    rw [← hb, ← tmod_nat]
    congr 1
  rw [ha, hb] at hE
  have hcut := Lib.hid (fun w' (hb' : Below w.heap.size w w') => cut_ok A n c a b o hn h3 h8 han hbn hs w' (hP.below hb'))
  obtain ⟨C, hC'⟩ : ∃ C, cutO o a b = C := ⟨_, rfl⟩
  rw [hC'] at hcut hE
  have e1 : IntKind.i64.wrap ((i : Int) + n) = (i : Int) + n := IntWalk.i64_in _ (by omega)
  have e2 : IntKind.i64.wrap ((i : Int) + n - 1) = (i : Int) + n - 1 := IntWalk.i64_in _ (by omega)
  have e3 : IntKind.i64.wrap ((i : Int) + 1) = (i : Int) + 1 := IntWalk.i64_in _ (by omega)
  have e4 : IntKind.i64.wrap (a : Int) = a := IntWalk.i64_in _ (by omega)
  have e5 : IntKind.i64.wrap (b : Int) = b := IntWalk.i64_in _ (by omega)
  clear ha hb hP hs hC' hn
  have HC : Hid (∀ w', Below w.drew.heap.size w.drew w' → True) := fun _ _ => trivial
  by_cases h : n = 3
  · have hq : ((n : Int) == 3) = true := by simp [h]
    have hE' : E = true := by rw [← hE]; simp [h]
    subst hE'
    clear hE h
    go_enter Tryd.func14, Tryd.ntmps14
    go_wp2_with (fail)
    refine De.region_det (by kernel_rfl) (by kernel_rfl) ?_
    refine De.Det.read (o := ?o1) (v := ?v1) 0 ?q1 (by kernel_rfl) (by kernel_rfl) ?w1 ?y1 ?h1
    case q1 => (simp only [List.getElem?_toArray, List.getElem?_cons_succ, List.getElem?_cons_zero]; rfl)
    case w1 => kernel_rfl
    case y1 => (intro w' hw'; obtain _ := HC.out w' hw'; go_simp; (try with_reducible rfl))
    (try simp only [Act.put, List.setIfInBounds_toArray, List.set_cons_zero, List.set_cons_succ])
    refine De.Det.read (o := ?o2) (v := ?v2) 1 ?q2 (by kernel_rfl) (by kernel_rfl) ?w2 ?y2 ?h2
    case q2 => (simp only [List.getElem?_toArray, List.getElem?_cons_succ, List.getElem?_cons_zero]; rfl)
    case w2 => kernel_rfl
    case y2 => (intro w' hw'; obtain _ := HC.out w' hw'; go_simp; (try with_reducible rfl))
    (try simp only [Act.put, List.setIfInBounds_toArray, List.set_cons_zero, List.set_cons_succ])
    refine De.Det.read (o := ?o3) (v := ?v3) 2 ?q3 (by kernel_rfl) (by kernel_rfl) ?w3 ?y3 ?h3
    case q3 => (simp only [List.getElem?_toArray, List.getElem?_cons_succ, List.getElem?_cons_zero]; rfl)
    case w3 => kernel_rfl
    case y3 => (intro w' hw'; obtain _ := HC.out w' hw'; go_simp; (try with_reducible rfl))
    (try simp only [Act.put, List.setIfInBounds_toArray, List.set_cons_zero, List.set_cons_succ])
    refine De.Det.skip (o := ?o4) 3 ?q4 (by kernel_rfl) (by kernel_rfl) ?w4 ?h4
    case q4 => (simp only [List.getElem?_toArray, List.getElem?_cons_succ, List.getElem?_cons_zero]; rfl)
    case w4 => kernel_rfl
    (try simp only [Act.put, List.setIfInBounds_toArray, List.set_cons_zero, List.set_cons_succ])
    refine De.Det.skip (o := ?o5) 4 ?q5 (by kernel_rfl) (by kernel_rfl) ?w5 ?h5
    case q5 => (simp only [List.getElem?_toArray, List.getElem?_cons_succ, List.getElem?_cons_zero]; rfl)
    case w5 => kernel_rfl
    (try simp only [Act.put, List.setIfInBounds_toArray, List.set_cons_zero, List.set_cons_succ])
    refine De.Det.skip (o := ?o6) 5 ?q6 (by kernel_rfl) (by kernel_rfl) ?w6 ?h6
    case q6 => (simp only [List.getElem?_toArray, List.getElem?_cons_succ, List.getElem?_cons_zero]; rfl)
    case w6 => kernel_rfl
    (try simp only [Act.put, List.setIfInBounds_toArray, List.set_cons_zero, List.set_cons_succ])
    refine De.Det.skip (o := ?o7) 6 ?q7 (by kernel_rfl) (by kernel_rfl) ?w7 ?h7
    case q7 => (simp only [List.getElem?_toArray, List.getElem?_cons_succ, List.getElem?_cons_zero]; rfl)
    case w7 => kernel_rfl
    (try simp only [Act.put, List.setIfInBounds_toArray, List.set_cons_zero, List.set_cons_succ])
    refine De.Det.skip (o := ?o8) 7 ?q8 (by kernel_rfl) (by kernel_rfl) ?w8 ?h8
    case q8 => (simp only [List.getElem?_toArray, List.getElem?_cons_succ, List.getElem?_cons_zero]; rfl)
    case w8 => kernel_rfl
    (try simp only [Act.put, List.setIfInBounds_toArray, List.set_cons_zero, List.set_cons_succ])
    refine De.Det.skip (o := ?o9) 8 ?q9 (by kernel_rfl) (by kernel_rfl) ?w9 ?h9
    case q9 => (simp only [List.getElem?_toArray, List.getElem?_cons_succ, List.getElem?_cons_zero]; rfl)
    case w9 => kernel_rfl
    (try simp only [Act.put, List.setIfInBounds_toArray, List.set_cons_zero, List.set_cons_succ])
    refine De.Det.skip (o := ?o10) 9 ?q10 (by kernel_rfl) (by kernel_rfl) ?w10 ?h10
    case q10 => (simp only [List.getElem?_toArray, List.getElem?_cons_succ, List.getElem?_cons_zero]; rfl)
    case w10 => kernel_rfl
    (try simp only [Act.put, List.setIfInBounds_toArray, List.set_cons_zero, List.set_cons_succ])
    refine De.Det.skip (o := ?o11) 10 ?q11 (by kernel_rfl) (by kernel_rfl) ?w11 ?h11
    case q11 => (simp only [List.getElem?_toArray, List.getElem?_cons_succ, List.getElem?_cons_zero]; rfl)
    case w11 => kernel_rfl
    (try simp only [Act.put, List.setIfInBounds_toArray, List.set_cons_zero, List.set_cons_succ])
    refine De.Det.skip (o := ?o12) 11 ?q12 (by kernel_rfl) (by kernel_rfl) ?w12 ?h12
    case q12 => (simp only [List.getElem?_toArray, List.getElem?_cons_succ, List.getElem?_cons_zero]; rfl)
    case w12 => kernel_rfl
    (try simp only [Act.put, List.setIfInBounds_toArray, List.set_cons_zero, List.set_cons_succ])
    refine De.Det.skip (o := ?o13) 12 ?q13 (by kernel_rfl) (by kernel_rfl) ?w13 ?h13
    case q13 => (simp only [List.getElem?_toArray, List.getElem?_cons_succ, List.getElem?_cons_zero]; rfl)
    case w13 => kernel_rfl
    (try simp only [Act.put, List.setIfInBounds_toArray, List.set_cons_zero, List.set_cons_succ])
    refine De.Det.skip (o := ?o14) 13 ?q14 (by kernel_rfl) (by kernel_rfl) ?w14 ?h14
    case q14 => (simp only [List.getElem?_toArray, List.getElem?_cons_succ, List.getElem?_cons_zero]; rfl)
    case w14 => kernel_rfl
    (try simp only [Act.put, List.setIfInBounds_toArray, List.set_cons_zero, List.set_cons_succ])
    refine De.Det.skip (o := ?o15) 14 ?q15 (by kernel_rfl) (by kernel_rfl) ?w15 ?h15
    case q15 => (simp only [List.getElem?_toArray, List.getElem?_cons_succ, List.getElem?_cons_zero]; rfl)
    case w15 => kernel_rfl
    (try simp only [Act.put, List.setIfInBounds_toArray, List.set_cons_zero, List.set_cons_succ])
    refine De.Det.read (o := ?o16) (v := ?v16) 15 ?q16 (by kernel_rfl) (by kernel_rfl) ?w16 ?y16 ?h16
    case q16 => (simp only [List.getElem?_toArray, List.getElem?_cons_succ, List.getElem?_cons_zero]; rfl)
    case w16 => kernel_rfl
    case y16 => (intro w' hw'; obtain _ := HC.out w' hw'; go_simp; (try with_reducible rfl))
    (try simp only [Act.put, List.setIfInBounds_toArray, List.set_cons_zero, List.set_cons_succ])
    refine De.Det.read (o := ?o17) (v := ?v17) 16 ?q17 (by kernel_rfl) (by kernel_rfl) ?w17 ?y17 ?h17
    case q17 => (simp only [List.getElem?_toArray, List.getElem?_cons_succ, List.getElem?_cons_zero]; rfl)
    case w17 => kernel_rfl
    case y17 => (intro w' hw'; obtain _ := HC.out w' hw'; go_simp; (try with_reducible rfl))
    (try simp only [Act.put, List.setIfInBounds_toArray, List.set_cons_zero, List.set_cons_succ])
    refine De.Det.base ?_
    refine De.Det2.done (by kernel_rfl) ?_
    rintro w3 ⟨hb_w3, hO_w3⟩
    clear hO_w3
    go_wp2_with (fail)
    go_ret
    exact ⟨rfl, drew_up hb_w3⟩
  · have hq : ((n : Int) == 3) = false := by simp; omega
    have hE' : E = C := by rw [← hE]; simp [h]
    subst hE'
    clear hE h
    go_enter Tryd.func14, Tryd.ntmps14
    go_wp2_with (fail)
    refine De.region_det (by kernel_rfl) (by kernel_rfl) ?_
    refine De.Det.read (o := ?o18) (v := ?v18) 0 ?q18 (by kernel_rfl) (by kernel_rfl) ?w18 ?y18 ?h18
    case q18 => (simp only [List.getElem?_toArray, List.getElem?_cons_succ, List.getElem?_cons_zero]; rfl)
    case w18 => kernel_rfl
    case y18 => (intro w' hw'; obtain _ := HC.out w' hw'; go_simp; (try with_reducible rfl))
    (try simp only [Act.put, List.setIfInBounds_toArray, List.set_cons_zero, List.set_cons_succ])
    refine De.Det.read (o := ?o19) (v := ?v19) 1 ?q19 (by kernel_rfl) (by kernel_rfl) ?w19 ?y19 ?h19
    case q19 => (simp only [List.getElem?_toArray, List.getElem?_cons_succ, List.getElem?_cons_zero]; rfl)
    case w19 => kernel_rfl
    case y19 => (intro w' hw'; obtain _ := HC.out w' hw'; go_simp; (try with_reducible rfl))
    (try simp only [Act.put, List.setIfInBounds_toArray, List.set_cons_zero, List.set_cons_succ])
    refine De.Det.read (o := ?o20) (v := ?v20) 2 ?q20 (by kernel_rfl) (by kernel_rfl) ?w20 ?y20 ?h20
    case q20 => (simp only [List.getElem?_toArray, List.getElem?_cons_succ, List.getElem?_cons_zero]; rfl)
    case w20 => kernel_rfl
    case y20 => (intro w' hw'; obtain _ := HC.out w' hw'; go_simp; (try with_reducible rfl))
    (try simp only [Act.put, List.setIfInBounds_toArray, List.set_cons_zero, List.set_cons_succ])
    refine De.Det.read (o := ?o21) (v := ?v21) 3 ?q21 (by kernel_rfl) (by kernel_rfl) ?w21 ?y21 ?h21
    case q21 => (simp only [List.getElem?_toArray, List.getElem?_cons_succ, List.getElem?_cons_zero]; rfl)
    case w21 => kernel_rfl
    case y21 => (intro w' hw'; obtain _ := HC.out w' hw'; go_simp; (try with_reducible rfl))
    (try simp only [Act.put, List.setIfInBounds_toArray, List.set_cons_zero, List.set_cons_succ])
    refine De.Det.read (o := ?o22) (v := ?v22) 4 ?q22 (by kernel_rfl) (by kernel_rfl) ?w22 ?y22 ?h22
    case q22 => (simp only [List.getElem?_toArray, List.getElem?_cons_succ, List.getElem?_cons_zero]; rfl)
    case w22 => kernel_rfl
    case y22 => (intro w' hw'; obtain _ := HC.out w' hw'; go_simp; (try with_reducible rfl))
    (try simp only [Act.put, List.setIfInBounds_toArray, List.set_cons_zero, List.set_cons_succ])
    refine De.Det.read (o := ?o23) (v := ?v23) 5 ?q23 (by kernel_rfl) (by kernel_rfl) ?w23 ?y23 ?h23
    case q23 => (simp only [List.getElem?_toArray, List.getElem?_cons_succ, List.getElem?_cons_zero]; rfl)
    case w23 => kernel_rfl
    case y23 => (intro w' hw'; obtain _ := HC.out w' hw'; go_simp; (try with_reducible rfl))
    (try simp only [Act.put, List.setIfInBounds_toArray, List.set_cons_zero, List.set_cons_succ])
    refine De.Det.read (o := ?o24) (v := ?v24) 6 ?q24 (by kernel_rfl) (by kernel_rfl) ?w24 ?y24 ?h24
    case q24 => (simp only [List.getElem?_toArray, List.getElem?_cons_succ, List.getElem?_cons_zero]; rfl)
    case w24 => kernel_rfl
    case y24 => (intro w' hw'; obtain _ := HC.out w' hw'; go_simp; (try with_reducible rfl))
    (try simp only [Act.put, List.setIfInBounds_toArray, List.set_cons_zero, List.set_cons_succ])
    refine De.Det.read (o := ?o25) (v := ?v25) 7 ?q25 (by kernel_rfl) (by kernel_rfl) ?w25 ?y25 ?h25
    case q25 => (simp only [List.getElem?_toArray, List.getElem?_cons_succ, List.getElem?_cons_zero]; rfl)
    case w25 => kernel_rfl
    case y25 => (intro w' hw'; obtain _ := HC.out w' hw'; go_simp; (try with_reducible rfl))
    (try simp only [Act.put, List.setIfInBounds_toArray, List.set_cons_zero, List.set_cons_succ])
    refine De.Det.read (o := ?o26) (v := ?v26) 8 ?q26 (by kernel_rfl) (by kernel_rfl) ?w26 ?y26 ?h26
    case q26 => (simp only [List.getElem?_toArray, List.getElem?_cons_succ, List.getElem?_cons_zero]; rfl)
    case w26 => kernel_rfl
    case y26 => (intro w' hw'; obtain _ := HC.out w' hw'; go_simp; (try with_reducible rfl))
    (try simp only [Act.put, List.setIfInBounds_toArray, List.set_cons_zero, List.set_cons_succ])
    refine De.Det.read (o := ?o27) (v := ?v27) 9 ?q27 (by kernel_rfl) (by kernel_rfl) ?w27 ?y27 ?h27
    case q27 => (simp only [List.getElem?_toArray, List.getElem?_cons_succ, List.getElem?_cons_zero]; rfl)
    case w27 => kernel_rfl
    case y27 => (intro w' hw'; obtain _ := HC.out w' hw'; go_simp; (try with_reducible rfl))
    (try simp only [Act.put, List.setIfInBounds_toArray, List.set_cons_zero, List.set_cons_succ])
    refine De.Det.read (o := ?o28) (v := ?v28) 10 ?q28 (by kernel_rfl) (by kernel_rfl) ?w28 ?y28 ?h28
    case q28 => (simp only [List.getElem?_toArray, List.getElem?_cons_succ, List.getElem?_cons_zero]; rfl)
    case w28 => kernel_rfl
    case y28 => (intro w' hw'; obtain _ := HC.out w' hw'; go_simp; (try with_reducible rfl))
    (try simp only [Act.put, List.setIfInBounds_toArray, List.set_cons_zero, List.set_cons_succ])
    refine De.Det.read (o := ?o29) (v := ?v29) 11 ?q29 (by kernel_rfl) (by kernel_rfl) ?w29 ?y29 ?h29
    case q29 => (simp only [List.getElem?_toArray, List.getElem?_cons_succ, List.getElem?_cons_zero]; rfl)
    case w29 => kernel_rfl
    case y29 => (intro w' hw'; obtain _ := HC.out w' hw'; go_simp; (try with_reducible rfl))
    (try simp only [Act.put, List.setIfInBounds_toArray, List.set_cons_zero, List.set_cons_succ])
    refine De.Det.read (o := ?o30) (v := ?v30) 12 ?q30 (by kernel_rfl) (by kernel_rfl) ?w30 ?y30 ?h30
    case q30 => (simp only [List.getElem?_toArray, List.getElem?_cons_succ, List.getElem?_cons_zero]; rfl)
    case w30 => kernel_rfl
    case y30 => (intro w' hw'; obtain _ := HC.out w' hw'; go_simp; (try with_reducible rfl))
    (try simp only [Act.put, List.setIfInBounds_toArray, List.set_cons_zero, List.set_cons_succ])
    refine De.Det.read (o := ?o31) (v := ?v31) 13 ?q31 (by kernel_rfl) (by kernel_rfl) ?w31 ?y31 ?h31
    case q31 => (simp only [List.getElem?_toArray, List.getElem?_cons_succ, List.getElem?_cons_zero]; rfl)
    case w31 => kernel_rfl
    case y31 => (intro w' hw'; obtain _ := HC.out w' hw'; go_simp; (try with_reducible rfl))
    (try simp only [Act.put, List.setIfInBounds_toArray, List.set_cons_zero, List.set_cons_succ])
    refine De.Det.call (o := ?o32) (v := ?v32) (f := ?f32) (args := ?g32) 14 ?q32 (by kernel_rfl) (by kernel_rfl) ?w32 ?e32 ?c32 ?h32
    case q32 => (simp only [List.getElem?_toArray, List.getElem?_cons_succ, List.getElem?_cons_zero]; rfl)
    case w32 => kernel_rfl
    case e32 => (intro w'; go_simp; refine ⟨?_, ?_⟩ <;> with_reducible rfl)
    case c32 => (intro w' hw'; exact (hcut.out w' (drew_up hw')))
    (try simp only [Act.put, List.setIfInBounds_toArray, List.set_cons_zero, List.set_cons_succ])
    refine De.Det.read (o := ?o33) (v := ?v33) 15 ?q33 (by kernel_rfl) (by kernel_rfl) ?w33 ?y33 ?h33
    case q33 => (simp only [List.getElem?_toArray, List.getElem?_cons_succ, List.getElem?_cons_zero]; rfl)
    case w33 => kernel_rfl
    case y33 => (intro w' hw'; obtain _ := HC.out w' hw'; go_simp; (try with_reducible rfl))
    (try simp only [Act.put, List.setIfInBounds_toArray, List.set_cons_zero, List.set_cons_succ])
    refine De.Det.read (o := ?o34) (v := ?v34) 16 ?q34 (by kernel_rfl) (by kernel_rfl) ?w34 ?y34 ?h34
    case q34 => (simp only [List.getElem?_toArray, List.getElem?_cons_succ, List.getElem?_cons_zero]; rfl)
    case w34 => kernel_rfl
    case y34 => (intro w' hw'; obtain _ := HC.out w' hw'; go_simp; (try with_reducible rfl))
    (try simp only [Act.put, List.setIfInBounds_toArray, List.set_cons_zero, List.set_cons_succ])
    refine De.Det.base ?_
    refine De.Det2.done (by kernel_rfl) ?_
    rintro w3 ⟨hb_w3, hO_w3⟩
    clear hO_w3
    go_wp2_with (fail)
    go_ret
    exact ⟨rfl, drew_up hb_w3⟩
/-- a list of ints, for its own -/
def RetInts (w : World) (l : List Int) (er : Int) (e : Ending) (w' : World) : Prop := ∃ v, e = .returned (.tuple #[v, .int .i64 er]) ∧ OwnI w' w.heap.size v l ∧ Below w.heap.size w w'
def earsK (o : List Pt) (k : Nat) : List Nat := (List.range k).filter (earO o)
theorem earsK_succ (o : List Pt) (k : Nat) : earsK o (k + 1) = if earO o k then earsK o k ++ [k] else earsK o k := by
  unfold earsK
  rw [List.range_succ, List.filter_append]
  split <;> simp_all
theorem earsK_len (o : List Pt) (k : Nat) : (earsK o k).length ≤ k := by
  unfold earsK
  exact Nat.le_trans (List.length_filter_le _ _) (by simp)
def natL (l : List Nat) : List Int := l.map fun k : Nat => (k : Int)
set_option maxRecDepth 100000 in
set_option maxHeartbeats 1000000 in
theorem Ears_ok (A : Option Addr) (n c : Nat) (o : List Pt) (hn : o.length = n) (h3 : 3 ≤ n) (h8 : n ≤ 8) (hcap : n ≤ c) (hI : In12 o) (hD : o.Nodup) (hG : pieceOk o = true) (w : World) (hP : PtS w A o) :
    Calls Tryd.prog 9 #[.slice A n c] w (RetInts w (natL (ears o)) 0) := by
  have hall : Hid (ears o = earsK o n) := by rw [Hid, ← hn]; rfl
  have hchk := Lib.hid (fun w' (hb : Below w.heap.size w w') => Check_ok A n c o hn h3 h8 hcap hI hD w' (hP.below hb))
  have hE0 : chkE o = 0 := by unfold chkE; rw [if_pos hG]
  rw [hE0] at hchk
  have hear := Lib.hid (fun w' (hb : Below w.heap.size w w') i (hi : i < n) => ear_ok A n c i o hn h3 h8 hi hI.sm w' (hP.below hb))
  have hsuc := Lib.hid (fun k => earsK_succ o k)
  have hlen := Lib.hid (fun k => earsK_len o k)
  clear hP hI hD hG hE0 hn
  rw [hall.out]
  have h8i : (n : Int) ≤ 8 := by omega
  go_enter Tryd.func9, Tryd.ntmps9
  go_wp2_with (go_at_call 6; (with_reducible refine (hchk.out _ (Below.refl _ _)).mono ?_); rintro e w1 ⟨rfl, hb1⟩)
  go_loopw [5, 14] (fun u v wr => ∃ k : Nat, k ≤ n ∧ v = .int .i64 k ∧ OwnI wr w.heap.size u (natL (earsK o k)) ∧ Below w.heap.size w wr) (fun _ v _ => n - (intOf v).toNat)
  case atStart => exact ⟨0, by omega, rfl, OwnI.nil _ _, hb1⟩
  case round =>
    obtain ⟨k, hk, rfl, ho, hb⟩ := hrel
    obtain ⟨wa, rfl⟩ : ∃ x, x = wr := ⟨wr, rfl⟩
    by_cases hlt : k < n
    · have hlti : (k : Int) < n := by omega
      have hs := hsuc.out k
      have hl := hlen.out k
      have he := Lib.hid (fun w' hb' => hear.out w' hb' k hlt)
      obtain ⟨q, hq⟩ : ∃ q, earO o k = q := ⟨_, rfl⟩
      rw [hq] at he hs
      clear hq
      have hsH := Lib.hid hs
      clear hs
      have hl9 : (natL (earsK o k)).length ≤ 1000000000 := by simp [natL]; omega
      cases q with
      | true =>
        go_wp2_with (first
          | (go_at_call 14; (with_reducible refine (he.out _ hb).mono ?_); rintro e w2 ⟨rfl, hb2⟩
             have hbb2 := hb.trans (hb2.mono hb.size)
             have ho2 := ho.callee hb2)
          | (at_builtin
             refine wpList_push rfl _ _ rfl rfl (ho2.none_ (World.grownBy_alloc w2 _ none)) w2.heap.size 1 k rfl (Blk.new w2 _ _) hl9 (by have := hbb2.size; show _ ≤ (w2.heap.push _).size; simp; omega) ?_
             intro g6 cap6 w6 ho6 hgr6 _ _
             have hb6 := (hbb2.alloc hbb2.size (.cells #[.int .i64 k] 3)).grown hgr6 (by have := hbb2.size; show _ ≤ (w2.heap.push _).size; simp; omega) (fun g hg => ho2.ge hg)))
        go_roundw
        case rel => exact ⟨k + 1, by omega, by go_num, by rw [hsH.out]; simpa [natL] using ho6, hb6⟩
        case measure => simp [intOf]; omega
      | false =>
        go_wp2_with (first
          | (go_at_call 14; (with_reducible refine (he.out _ hb).mono ?_); rintro e w2 ⟨rfl, hb2⟩
             have hbb2 := hb.trans (hb2.mono hb.size)
             have ho2 := ho.callee hb2))
        go_roundw
        case rel => exact ⟨k + 1, by omega, by go_num, by rw [hsH.out]; simpa using ho2, hbb2⟩
        case measure => simp [intOf]; omega
    · obtain rfl : n = k := by omega
      go_wp2_with (fail)
      go_ret2
      exact ⟨_, rfl, ho, hb⟩
end Du
end Go.Proofs.YtkbfmogjhjdjmaaDoor
-- the text DuN
namespace Go.Proofs.YtkbfmogjhjdjmaaDoor
open Go.RowKit
namespace Du
set_option linter.unusedSimpArgs false
abbrev Tri := Pt × Pt × Pt
def triV (t : Tri) : List Value := [.int .i64 t.1.1, .int .i64 t.1.2, .int .i64 t.2.1.1, .int .i64 t.2.1.2, .int .i64 t.2.2.1, .int .i64 t.2.2.2]
def triC (l : List Tri) : List Value := l.flatMap triV
theorem triC_snoc (l : List Tri) (t : Tri) : triC (l ++ [t]) = triC l ++ triV t := by simp [triC]
def OwnT (w : World) (base : Nat) (v : Value) (l : List Tri) : Prop := w.ownsRow base 36 6 v l.length (triC l)
theorem infoTri : (Tryd.prog.info? 36).map (fun i => (i.zero, i.size, i.bytes)) = some (some (.agg #[.int .i64 0, .int .i64 0, .int .i64 0, .int .i64 0, .int .i64 0, .int .i64 0]), 6, 48) := by kernel_rfl
section
variable {w w' : World} {base : Nat} {v : Value} {l : List Tri}
theorem OwnT.nil (w : World) (base : Nat) : OwnT w base (.slice none 0 0) [] := World.ownsRow_nil _ _ _ _
theorem OwnT.keep (h : OwnT w base v l) (hk : ∀ g, v.ownBlock = some g → w'.heap[g]? = w.heap[g]?) : OwnT w' base v l := by
  refine ⟨h.1, ?_⟩
  rcases h.2 with h0 | ⟨g, cap, cur, rfl, hb, hg, r⟩
  · exact .inl h0
  · exact .inr ⟨g, cap, cur, rfl, hb, (hk g rfl).trans hg, r⟩
theorem OwnT.ge (h : OwnT w base v l) {g : Nat} (hg : v.ownBlock = some g) : base ≤ g := (World.ownsRow.lt h g hg).1
theorem OwnT.lt (h : OwnT w base v l) {g : Nat} (hg : v.ownBlock = some g) : g < w.heap.size := (World.ownsRow.lt h g hg).2
theorem OwnT.callee (h : OwnT w base v l) (hb : Below w.heap.size w w') : OwnT w' base v l := h.keep fun g hg => hb.block g (h.lt hg)
theorem OwnT.none_ (h : OwnT w base v l) (hb : w.grownBy w' none) : OwnT w' base v l := h.keep fun g hg => hb.block g (h.lt hg) (by simp)
theorem OwnT.some_ (h : OwnT w base v l) {k : Nat} (hb : w.grownBy w' (some k)) (hne : v.ownBlock ≠ some k) : OwnT w' base v l := h.keep fun g hg => hb.block g (h.lt hg) (fun e => hne (by rw [hg, e]))
theorem OwnT.drew (h : OwnT w base v l) : OwnT w.drew base v l := h
theorem OwnT.ne_blk (h : OwnT w base v l) {g : Nat} {t : TypeId} {cs : Array Value} (hg : Blk w g t cs) (hne : 36 ≠ t) : v.ownBlock ≠ some g := own_blk_ne h hg hne
theorem wp_pushT {o : Oper} {a : Act} {K : Act → World → Prop} {Q : Exit → Act → World → Prop} (s x : Operand)
    (ho : o.op = .call { callee := .builtin .append, args := #[s, x], argTypes := #[25, 25] }) (hs : a.eval s = v) (hown : OwnT w base v l)
    (B c : Nat) (t : Tri) (hx : a.eval x = .slice (some ⟨B, 0, none⟩) 1 c) (hB : Blk w B 36 (triV t).toArray) (hlen : l.length ≤ 1000000) (hbase : base ≤ w.heap.size)
    (h : ∀ (g cap : Nat) (w' : World), OwnT w' base (.slice (some ⟨g, 0, none⟩) (l.length + 1) cap) (l ++ [t]) → w.grownBy w' v.ownBlock → (v.ownBlock = some g ∨ g = w.heap.size) → g < w'.heap.size → K (a.put o.dst (.slice (some ⟨g, 0, none⟩) (l.length + 1) cap)) w') : o.wp Tryd.prog a w K Q := by
  obtain ⟨i0, hi0, hz0, hz1, hz2⟩ := info_parts infoTri
  refine wp_append_lies w s x 25 ho base 36 i0 (.agg #[.int .i64 0, .int .i64 0, .int .i64 0, .int .i64 0, .int .i64 0, .int .i64 0]) 6 48 Tryd.underlying25 hi0 hz0 hz1 hz2 rfl (by decide) v l.length (triC l) hs hown ⟨B, 0, none⟩ 1 c (triV t) hx rfl
    (World.news_of_block hB) (by simp [triV, Value.oneCell']) (by decide) (by simp only [maxLen]; omega) (by omega) hbase _ rfl ?_
  intro g cap w' hown' hgr hat hlt
  refine h g cap w' ?_ hgr hat hlt
  unfold OwnT
  rw [triC_snoc, List.length_append]
  exact hown'
theorem wpList_pushT {ops : Array Oper} {rest : List Oper} {o : Oper} {a : Act} {Q : Exit → Act → World → Prop} (hgd : o.guard = none) (s x : Operand)
    (ho : o.op = .call { callee := .builtin .append, args := #[s, x], argTypes := #[25, 25] }) (hs : a.eval s = v) (hown : OwnT w base v l)
    (B c : Nat) (t : Tri) (hx : a.eval x = .slice (some ⟨B, 0, none⟩) 1 c) (hB : Blk w B 36 (triV t).toArray) (hlen : l.length ≤ 1000000) (hbase : base ≤ w.heap.size)
    (h : ∀ (g cap : Nat) (w' : World), OwnT w' base (.slice (some ⟨g, 0, none⟩) (l.length + 1) cap) (l ++ [t]) → w.grownBy w' v.ownBlock → (v.ownBlock = some g ∨ g = w.heap.size) → g < w'.heap.size → wpList Tryd.prog ops Q rest (a.put o.dst (.slice (some ⟨g, 0, none⟩) (l.length + 1) cap)) w') : wpList Tryd.prog ops Q (o :: rest) a w :=
  wpList_plain hgd fun _ hK => wp_pushT s x ho hs hown B c t hx hB hlen hbase fun g cap w' h2 h3 h4 h5 => hK _ _ (h g cap w' h2 h3 h4 h5)
theorem step_pushT {ops : Array Oper} {o : Oper} {a : Act} {K : Act → World → Prop} {Q : Exit → Act → World → Prop} {E : Prop} (hgd : o.guard = none) (s x : Operand)
    (ho : o.op = .call { callee := .builtin .append, args := #[s, x], argTypes := #[25, 25] }) (hs : a.eval s = v) (hown : OwnT w base v l)
    (B c : Nat) (t : Tri) (hx : a.eval x = .slice (some ⟨B, 0, none⟩) 1 c) (hB : Blk w B 36 (triV t).toArray) (hlen : l.length ≤ 1000000) (hbase : base ≤ w.heap.size)
    (h : ∀ (g cap : Nat) (w' : World), OwnT w' base (.slice (some ⟨g, 0, none⟩) (l.length + 1) cap) (l ++ [t]) → w.grownBy w' v.ownBlock → (v.ownBlock = some g ∨ g = w.heap.size) → g < w'.heap.size → K (a.put o.dst (.slice (some ⟨g, 0, none⟩) (l.length + 1) cap)) w') :
    if Region.wanted o (yielded ops a.tmps) = true then Oper.wp Tryd.prog o a w K Q else E := by
  have hw : Region.wanted o (yielded ops a.tmps) = true := by simp [Region.wanted, hgd]
  rw [if_pos hw]
  exact wp_pushT s x ho hs hown B c t hx hB hlen hbase h
end
theorem find_range {f : Nat → Bool} {n j : Nat} (hpre : ∀ x, x < j → f x = false) (hj : j ≤ n) (hend : j = n ∨ f j = true) : ((List.range n).find? f).getD n = j := by
  rcases Nat.lt_or_ge j n with hlt | hge
  · have hf : f j = true := by
      rcases hend with h | h
      · omega
      · exact h
    have : (List.range n).find? f = some j := by
      rw [List.find?_range_eq_some]
      exact ⟨hf, List.mem_range.2 hlt, fun k hk => by rw [hpre k hk]; rfl⟩
    rw [this]
    rfl
  · obtain rfl : j = n := by omega
    have : (List.range j).find? f = none := by
      rw [List.find?_eq_none]
      intro x hx
      rw [hpre x (List.mem_range.1 hx)]
      decide
    rw [this]
    rfl
theorem first_eq {o : List Pt} {n j : Nat} (hn : o.length = n) (hpre : ∀ x, x < j → earO o x = false) (hj : j ≤ n - 1) (hend : j = n - 1 ∨ earO o j = true) : firstEar o = j := by
  subst hn
  exact find_range hpre hj hend
theorem tris_succ (f : Nat) (o : List Pt) {j : Nat} (hj : firstEar o = j) : tris (f + 1) o = (prev o j, at' o j, at' o (j + 1)) :: tris f (o.eraseIdx j) := by
  subst hj
  rfl
def slLen : Value → Nat
  | .slice _ n _ => n
  | _ => 0
theorem SmL.erase {B : Int} {o : List Pt} (h : SmL B o) (i : Nat) : SmL B (o.eraseIdx i) := fun p hp => h p (List.mem_of_mem_eraseIdx hp)
end Du
end Go.Proofs.YtkbfmogjhjdjmaaDoor
