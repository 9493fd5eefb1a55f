/- The texts DrF to DrI, joined by joinlist.py: their statements say what each proves. -/
import Derived.Test.YtbgakdpbglpfaaaGreatDoorJdk
-- the text DrF
namespace Go.Proofs.YtbgakdpbglpfaaaGreatDoor
open Go.RowKit
namespace Dr
set_option linter.unusedSimpArgs false
structure ChestOk (c : Chest) : Prop where
  srt : c.sizes.Pairwise (· < ·)
  five : c.sizes.length ≤ 5
  len : c.stock.length = c.sizes.length
  rng : ∀ s ∈ c.sizes, 1 ≤ s ∧ s ≤ 30
  stk : ∀ x ∈ c.stock, x ≤ 40
  outl : c.out.length ≤ 200
  bou : c.bought ≤ 1000000
  eat : c.eaten ≤ 1000000
def Oks (S : House) : Prop := ∀ k c, lk k S.chests = some c → ChestOk c
section
variable {w : World} {V : Vals} {S : House}
/-- what place returns -/
def placeR (V : Vals) (S : House) (d : ByteArray) (s : Nat) : Value := match lk d S.chests with
  | none => .tuple #[.pointer none, .int .i64 0, .int .i64 2]
  | some c => if c.shut then .tuple #[.pointer none, .int .i64 0, .int .i64 20] else if c.sizes.contains s then .tuple #[V (.chest d), .int .i64 (pos s c.sizes : Nat), .int .i64 0] else .tuple #[.pointer none, .int .i64 0, .int .i64 2]
set_option maxRecDepth 100000 in
theorem place_any (H : HouseAt w V S) (hS : Oks S) (d : ByteArray) (s : Nat) :
    Calls Tryz.prog 228 #[V .house, .string d, .int .i64 (s : Int)] w fun e w' => e = .returned (placeR V S d s) ∧ ∃ q, w' = w.drewN q := by
  have hop := open_any H d
  obtain ⟨gh, hV, _⟩ := H.hs
  obtain ⟨R, hR⟩ : ∃ R, placeR V S d s = R := ⟨_, rfl⟩
  rw [hR]
  have hun : openR V S d = match lk d S.chests with
    | none => .tuple #[.pointer none, .int .i64 2]
    | some c => if c.shut then .tuple #[.pointer none, .int .i64 20] else .tuple #[V (.chest d), .int .i64 0] := rfl
  rw [hV] at hop ⊢
  cases hk : lk d S.chests with
  | none =>
    rw [hun, hk] at hop
    have HOP := Lib.hid hop
    have HR : Hid (R = .tuple #[.pointer none, .int .i64 0, .int .i64 2]) := by rw [Hid, ← hR, placeR, hk]
    clear hun hk hR hV hop H hS
    go_enter Tryz.func228, Tryz.ntmps228
    go_wp2_with (first
      | (go_at_call 216; (with_reducible refine HOP.out.mono ?_); rintro e w1 ⟨rfl, rfl⟩))
    go_ret3
    exact ⟨by rw [HR.out]; rfl, 0, rfl⟩
  | some c =>
    rw [hun, hk] at hop
    obtain ⟨⟨g, hg, hB⟩, hs, _, _⟩ := H.ch d c hk
    have hc := hS d c hk
    have hse := search_any hs (by have := hc.five; omega) hc.srt s
    cases hsh : c.shut with
    | true =>
      replace hop : Calls Tryz.prog 216 #[.pointer (some ⟨gh, 0, none⟩), .string d] w fun e w' => w' = w ∧ e = .returned (.tuple #[.pointer none, .int .i64 20]) := by
        simpa [hsh] using hop
      have HOP := Lib.hid hop
      have HR : Hid (R = .tuple #[.pointer none, .int .i64 0, .int .i64 20]) := by rw [Hid, ← hR, placeR, hk]; simp [hsh]
      clear hun hk hR hV hop hsh hse hg hB hs hc hS H
      go_enter Tryz.func228, Tryz.ntmps228
      go_wp2_with (first
        | (go_at_call 216; (with_reducible refine HOP.out.mono ?_); rintro e w1 ⟨rfl, rfl⟩))
      go_ret3
      exact ⟨by rw [HR.out]; rfl, 0, rfl⟩
    | false =>
      replace hop : Calls Tryz.prog 216 #[.pointer (some ⟨gh, 0, none⟩), .string d] w fun e w' => w' = w ∧ e = .returned (.tuple #[.pointer (some ⟨g, 0, none⟩), .int .i64 0]) := by
        simpa [hsh, hg] using hop
      have HOP := Lib.hid hop
      have c0 : w.cell? ⟨g, 0, none⟩ = some (V (.sizes d)) := hB.at_ 0 rfl
      have HSE := Lib.hid hse
      obtain ⟨n, hn⟩ : ∃ n, pos s c.sizes = n := ⟨_, rfl⟩
      have HR : Hid (R = if c.sizes.contains s then .tuple #[.pointer (some ⟨g, 0, none⟩), .int .i64 (n : Int), .int .i64 0] else .tuple #[.pointer none, .int .i64 0, .int .i64 2]) := by rw [Hid, ← hR, placeR, hk]; simp [hsh, hg, hn]
      rw [hn] at HSE
      cases hcs : c.sizes.contains s with
      | true =>
        rw [hcs] at HSE HR
        clear hun hk hR hV hop hsh hse hg hB hs hc hS H hn hcs
        go_enter Tryz.func228, Tryz.ntmps228
        go_wp2_with (first
          | (go_at_call 216; (with_reducible refine HOP.out.mono ?_); rintro e w1 ⟨rfl, rfl⟩)
          | (go_at_call 217; (with_reducible refine HSE.out.mono ?_); rintro e w2 ⟨rfl, q2, rfl⟩))
        go_ret3
        exact ⟨by rw [HR.out]; rfl, q2, rfl⟩
      | false =>
        rw [hcs] at HSE HR
        clear hun hk hR hV hop hsh hse hg hB hs hc hS H hn hcs
        go_enter Tryz.func228, Tryz.ntmps228
        go_wp2_with (first
          | (go_at_call 216; (with_reducible refine HOP.out.mono ?_); rintro e w1 ⟨rfl, rfl⟩)
          | (go_at_call 217; (with_reducible refine HSE.out.mono ?_); rintro e w2 ⟨rfl, q2, rfl⟩))
        go_ret3
        exact ⟨by rw [HR.out]; rfl, q2, rfl⟩
end
end Dr
end Go.Proofs.YtbgakdpbglpfaaaGreatDoor
-- the text DrG
namespace Go.Proofs.YtbgakdpbglpfaaaGreatDoor
open Go.RowKit
namespace Dr
theorem setA_self {α : Type} {k : ByteArray} {v : α} {l : List (ByteArray × α)} (h : lk k l = some v) : setA k v l = l := by
  induction l with
  | nil => rfl
  | cons x l ih =>
    obtain ⟨k', v'⟩ := x
    unfold lk at h
    unfold setA
    by_cases hk : k' = k
    · rw [if_pos hk] at h
      injection h with h
      rw [if_pos hk, h, hk]
    · rw [if_neg hk] at h
      rw [if_neg hk, ih h]
theorem setA_setA {α : Type} {k : ByteArray} {v u : α} {l : List (ByteArray × α)} : setA k v (setA k u l) = setA k v l := by
  induction l with
  | nil => rfl
  | cons x l ih =>
    obtain ⟨k', v'⟩ := x
    by_cases hk : k' = k
    · simp [setA, hk]
    · simp [setA, hk, ih]
theorem set_back {S : House} {d : ByteArray} {c c' : Chest} (h : lk d S.chests = some c) : (S.set d c').set d c = S := by
  unfold House.set
  rw [setA_setA, setA_self h]
section
variable {w : World} {V : Vals} {S : House}
theorem one_of {w : World} {vs vk vo : Value} {c : Chest} (h1 : OwnN w vs c.sizes) (h2 : OwnN w vk c.stock) (h3 : OwnT w vo c.out) : (chestV vs vk vo c).all (·.oneCell') = true := by
  obtain ⟨A1, c1, e1, _⟩ := ownN_form h1
  obtain ⟨A2, c2, e2, _⟩ := ownN_form h2
  obtain ⟨A3, c3, e3, _⟩ := ownS_form h3
  rw [e1, e2, e3]
  simp [Value.oneCell']
/-- the drawer becomes what it was -/
theorem undo_chest {d : ByteArray} {c c0 : Chest} {g g3 g4 : Nat} {ws wk wo : Value} (H : HouseAt w V S) (hk : lk d S.chests = some c0) (hg : V (.chest d) = .pointer (some ⟨g, 0, none⟩))
    (b1 : Blk w g3 98 #[.pointer (some ⟨g, 0, none⟩)]) (b2 : Blk w g4 103 (chestV ws wk wo c)) (o1 : OwnN w ws c.sizes) (o2 : OwnN w wk c.stock) (o3 : OwnT w wo c.out)
    (f1 : ∀ i, blkOf ws = some i → ¬ Foot V i) (f2 : ∀ i, blkOf wk = some i → ¬ Foot V i) (f3 : ∀ i, blkOf wo = some i → ¬ Foot V i) (d1 : Apart ws wk) (d2 : Apart ws wo) (d3 : Apart wk wo) :
    Calls Tryz.prog 219 #[.pointer (some ⟨g4, 0, none⟩), .pointer (some ⟨g3, 0, none⟩)] w fun e w' => e = .returned (.tuple #[]) ∧ HouseAt w' (updC V d ws wk wo) (S.set d c) ∧ w.grownBy w' (some g) := by
  obtain ⟨⟨g', hg', hB⟩, _⟩ := H.ch d c0 hk
  obtain rfl : g' = g := by rw [hg] at hg'; injection hg' with h; injection h with h; injection h with h; exact h.symm
  have bg : blkOf (V (.chest d)) = some g' := by rw [hg]; rfl
  refine (change_back b1 b2 hB rfl (one_of o1 o2 o3)).mono ?_
  rintro e w' ⟨rfl, hB', hgr⟩
  have hst : ∀ i, i ≠ g' → i < w.heap.size → w'.heap[i]? = w.heap[i]? := fun i h1 h2 => hgr.block i h2 (fun e => h1 (by injection e))
  have nf : ∀ {v : Value}, (∀ i, blkOf v = some i → ¬ Foot V i) → ∀ i, blkOf v = some i → i ≠ g' := fun h i hi e => h i hi ⟨.chest d, by rw [e]; exact bg⟩
  refine ⟨rfl, H.setChest hk (fun r i hr r1 r2 r3 r4 => hst i (H.ne_ hr bg r1) (H.lt ⟨r, hr⟩)) ⟨⟨g', hg, hB'⟩, OwnI.same o1 fun i hi => hst i (nf f1 i hi) (ownI_lt o1 hi), OwnI.same o2 fun i hi => hst i (nf f2 i hi) (ownI_lt o2 hi), OwnS.same o3 fun i hi => hst i (nf f3 i hi) (ownS_lt o3 hi)⟩
    (fun i hi => Or.inr (f1 i hi)) (fun i hi => Or.inr (f2 i hi)) (fun i hi => Or.inr (f3 i hi)) d1 d2 d3, hgr⟩
theorem updC_house (V : Vals) (d : ByteArray) (a b c : Value) : updC V d a b c .house = V .house := by simp [updC, Vals.put]
theorem updC_chest (V : Vals) (d q : ByteArray) (a b c : Value) : updC V d a b c (.chest q) = V (.chest q) := by simp [updC, Vals.put]
/-- .. all of it: w3 where the copy was made, w4 behind it, w6 behind the writing -/
theorem deed_chest {d : ByteArray} {c c' : Chest} {g g3 g4 : Nat} {ws wk wo vs' vk' vo' : Value} {w3 w4 w6 : World} (H : HouseAt w V S) (hk : lk d S.chests = some c) (hg : V (.chest d) = .pointer (some ⟨g, 0, none⟩))
    (hb3 : Below w.heap.size w w3) (K : Kept w3 w4 g g3 g4 ws wk wo c)
    (hos : w6.os = w4.os ∧ w6.tape = w4.tape ∧ w6.output = w4.output ∧ w4.heap.size ≤ w6.heap.size)
    (hst : ∀ i, i < w4.heap.size → i ≠ g → blkOf (V (.sizes d)) ≠ some i → blkOf (V (.stock d)) ≠ some i → blkOf (V (.outs d)) ≠ some i → w6.heap[i]? = w4.heap[i]?)
    (hC : ChestAt w6 (V (.chest d)) vs' vk' vo' c') (ns : NewAt w4 V (.sizes d) vs') (nk : NewAt w4 V (.stock d) vk') (no : NewAt w4 V (.outs d) vo') (d1 : Apart vs' vk') (d2 : Apart vs' vo') (d3 : Apart vk' vo') :
    HouseAt w6 (updC V d vs' vk' vo') (S.set d c') ∧ Frm (Foot V) w (Foot (updC V d vs' vk' vo')) w6 ∧ UndoOk 219 #[.pointer (some ⟨g4, 0, none⟩), .pointer (some ⟨g3, 0, none⟩)] V S w w6 := by
  have bg : blkOf (V (.chest d)) = some g := by rw [hg]; rfl
  have z3 := hb3.size
  have z4 := K.be.size
  have hb4 : Below w.heap.size w w4 := hb3.trans (K.be.mono z3)
  have hall : ∀ i, i < w.heap.size → i ≠ g → blkOf (V (.sizes d)) ≠ some i → blkOf (V (.stock d)) ≠ some i → blkOf (V (.outs d)) ≠ some i → w6.heap[i]? = w.heap[i]? := fun i hi h1 h2 h3 h4 => (hst i (by omega) h1 h2 h3 h4).trans (hb4.block i hi)
  have fr : ∀ {r : Role} {v : Value}, NewAt w4 V r v → FreshAt V r v := fun h => h.fresh (H.callee hb4)
  have H6 : HouseAt w6 (updC V d vs' vk' vo') (S.set d c') := H.setChest hk (fun r i hr r1 r2 r3 r4 => hall i (H.lt ⟨r, hr⟩) (H.ne_ hr bg r1) (fun e => H.ne_ hr e r2 rfl) (fun e => H.ne_ hr e r3 rfl) (fun e => H.ne_ hr e r4 rfl)) hC (fr ns) (fr nk) (fr no) d1 d2 d3
  have ft : ∀ {r : Role} {v : Value}, NewAt w4 V r v → ∀ i, blkOf v = some i → Foot V i ∨ w4.heap.size ≤ i := fun h i hi => h.foot hi
  have hF : Frm (Foot V) w (Foot (updC V d vs' vk' vo')) w6 := by
    refine ⟨hos.1.trans hb4.os, hos.2.1.trans hb4.tape, hos.2.2.1.trans hb4.output, Nat.le_trans hb4.size hos.2.2.2, fun i hi hn => hall i hi (fun e => hn ⟨.chest d, by rw [e]; exact bg⟩) (fun e => hn ⟨_, e⟩) (fun e => hn ⟨_, e⟩) (fun e => hn ⟨_, e⟩), fun i hi => ?_⟩
    rcases foot_updC hi with h | h | h | h
    · exact (ft ns i h).imp id (fun h => by omega)
    · exact (ft nk i h).imp id (fun h => by omega)
    · exact (ft no i h).imp id (fun h => by omega)
    · exact Or.inl h
  refine ⟨H6, hF, enters_of Tryz.func219 (by kernel_rfl) rfl, fun w'' hb'' => ?_⟩
  -- blocks that the copy has made stand
  have hnew : ∀ i, w3.heap.size ≤ i → i < w4.heap.size → w''.heap[i]? = w4.heap[i]? := fun i h1 h2 => by
    have hnF : ∀ {r : Role}, blkOf (V r) ≠ some i := fun {r} e => by
      have := H.lt ⟨r, e⟩
      omega
    exact (hb''.block i (by omega) (Or.inl (by omega))).trans (hst i h2 (fun e => hnF (r := .chest d) (by rw [e]; exact bg)) hnF hnF hnF)
  have hlk : lk d (S.set d c').chests = some c' := by
    show lk d (setA d c' S.chests) = _
    rw [lk_setA hk, if_pos rfl]
  have nfoot : ∀ i, w3.heap.size ≤ i → i < w4.heap.size → ¬ Foot (updC V d vs' vk' vo') i := fun i h1 h2 hF2 => by
    have hnF : ¬ Foot V i := fun hF => by
      have := H.lt hF
      omega
    rcases foot_updC hF2 with h | h | h | h
    · rcases ft ns i h with h | h
      · exact hnF h
      · omega
    · rcases ft nk i h with h | h
      · exact hnF h
      · omega
    · rcases ft no i h with h | h
      · exact hnF h
      · omega
    · exact hnF h
  have sI : ∀ {v : Value} {xs : List Nat}, NewN w3 w4 v xs → OwnN w'' v xs := fun h => OwnI.same h.1 fun i hi => hnew i (h.2 i hi) (ownI_lt h.1 hi)
  refine (undo_chest (c := c) (H6.later hb'' hF.foot) hlk (by rw [updC_chest]; exact hg) ((hnew g3 K.n1 K.b1.lt).trans K.b1) ((hnew g4 K.n2 K.b2.lt).trans K.b2) (sI K.sizes) (sI K.stock) (OwnS.same K.out.1 fun i hi => hnew i (K.out.2 i hi) (ownS_lt K.out.1 hi))
    (fun i hi => nfoot i (K.sizes.2 i hi) (ownI_lt K.sizes.1 hi)) (fun i hi => nfoot i (K.stock.2 i hi) (ownI_lt K.stock.1 hi)) (fun i hi => nfoot i (K.out.2 i hi) (ownS_lt K.out.1 hi)) K.d1 K.d2 K.d3).mono ?_
  rintro e w9 ⟨rfl, H9, hgr⟩
  rw [set_back hk] at H9
  refine ⟨rfl, _, H9, by rw [updC_house, updC_house], ?_⟩
  refine ⟨hgr.os, hgr.tape, hgr.output, hgr.size, fun i hi hn => hgr.block i (Nat.lt_of_lt_of_le hi (Nat.le_trans hF.size hb''.size)) (fun e => hn ⟨.chest d, by injection e with e; rw [e]; exact bg⟩), fun i hi => ?_⟩
  rcases foot_updC hi with h | h | h | h
  · exact Or.inr (Nat.le_trans z3 (K.sizes.2 i h))
  · exact Or.inr (Nat.le_trans z3 (K.stock.2 i h))
  · exact Or.inr (Nat.le_trans z3 (K.out.2 i h))
  · exact hF.foot i h
theorem updC_same (V : Vals) (d : ByteArray) : updC V d (V (.sizes d)) (V (.stock d)) (V (.outs d)) = V := by
  funext r
  unfold updC Vals.put
  by_cases h1 : r = .outs d
  · rw [if_pos h1, h1]
  · rw [if_neg h1]
    by_cases h2 : r = .stock d
    · rw [if_pos h2, h2]
    · rw [if_neg h2]
      by_cases h3 : r = .sizes d
      · rw [if_pos h3, h3]
      · rw [if_neg h3]
theorem NewAt.self (w : World) (V : Vals) (r : Role) : NewAt w V r (V r) := fun _ h => Or.inl h
theorem HouseAt.apart (H : HouseAt w V S) {r r' : Role} (h : r ≠ r') : Apart (V r) (V r') := fun _ h1 h2 => h (H.inj r r' _ h1 h2)
end
end Dr
end Go.Proofs.YtbgakdpbglpfaaaGreatDoor
-- the text DrH
namespace Go.Proofs.YtbgakdpbglpfaaaGreatDoor
open Go.RowKit
namespace Dr
set_option linter.unusedSimpArgs false
section
variable {w : World} {V : Vals} {S : House}
theorem place_cases (V : Vals) (S : House) (d : ByteArray) (s : Nat) : (∃ E : Int, E ≠ 0 ∧ placeR V S d s = .tuple #[.pointer none, .int .i64 0, .int .i64 E] ∧ (∀ k, doP S (.buy d s k) = (E, S)) ∧ doP S (.moth d s) = (E, S)) ∨
    ∃ c, lk d S.chests = some c ∧ c.shut = false ∧ c.sizes.contains s = true := by
  cases hk : lk d S.chests with
  | none => exact Or.inl ⟨2, by decide, by rw [placeR, hk], fun k => by rw [doP, hk], by rw [doP, hk]⟩
  | some c =>
    cases hs : c.shut with
    | true => exact Or.inl ⟨20, by decide, by simp [placeR, hk, hs], fun k => by simp [doP, hk, hs], by simp [doP, hk, hs]⟩
    | false =>
      cases hc : c.sizes.contains s with
      | false => exact Or.inl ⟨2, by decide, by simp only [placeR, hk, hs, hc]; simp, fun k => by simp only [doP, hk, hs, hc]; simp, by simp only [doP, hk, hs, hc]; simp⟩
      | true => exact Or.inr ⟨c, rfl, hs, hc⟩
set_option maxRecDepth 100000 in
theorem buying_no (H : HouseAt w V S) (hS : Oks S) (d : ByteArray) (s k : Nat) (E : Int) (hE : E ≠ 0) (hp : placeR V S d s = .tuple #[.pointer none, .int .i64 0, .int .i64 E]) (hd : doP S (.buy d s k) = (E, S)) :
    Calls Tryz.prog 227 #[.agg #[.string d, .int .i64 (s : Int), .int .i64 (k : Int)], V .house] w (DoPost V S w (doP S (.buy d s k))) := by
  have HPL := Lib.hid (fun (w' : World) (hb : Below w.heap.size w w') => place_any (H.callee hb) hS d s)
  rw [hp] at HPL
  have HP : Hid (∀ e w', e = .returned (.tuple #[.nilFunc, .int .i64 E]) → Below w.heap.size w w' → DoPost V S w (doP S (.buy d s k)) e w') := fun e w' he hb => by
    rw [hd]
    exact .no H hE he hb
  obtain ⟨gh, hV, hB⟩ := H.hs
  rw [hV] at HPL ⊢
  generalize hPo : DoPost V S w (doP S (.buy d s k)) = Po at HP ⊢
  have hE2 : (E != 0) = true := by simpa using hE
  have hE3 : (E == 0) = false := by simpa using hE
  clear hPo hp hd hE hV hB H hS
  go_enter Tryz.func227, Tryz.ntmps227
  go_wp2_with (first
    | (with_reducible show wpList _ _ _ (⟨_, .box 210 _, _, _, _, _⟩ :: _) _ _
       refine wpList_box_cells rfl 210 _ rfl (.agg #[.string d, .int .i64 (s : Int), .int .i64 (k : Int)]) #[.string d, .int .i64 (s : Int), .int .i64 (k : Int)] rfl rfl ?_
       intro w1 g1 hG1 hgr1 hge1
       have hb1 := below_grown hgr1
       have d0 : w1.cell? ⟨g1, 0, none⟩ = some (.string d) := hG1.at_ 0 rfl
       have d1 : w1.cell? ⟨g1, 1, none⟩ = some (.int .i64 (s : Int)) := hG1.at_ 1 rfl)
    | (go_at_call 228; (with_reducible refine (HPL.out _ hb1).mono ?_); rintro e w2 ⟨rfl, q2, rfl⟩))
  exact HP.out _ _ rfl (below_drewN hb1 _)
theorem pos_lt {xs : List Nat} {s : Nat} (hs : xs.Pairwise (· < ·)) (h : xs.contains s = true) : pos s xs < xs.length ∧ xs[pos s xs]? = some s := by
  induction xs with
  | nil => simp at h
  | cons x xs ih =>
    rw [List.pairwise_cons] at hs
    unfold pos at ih ⊢
    rw [List.countP_cons]
    by_cases hx : x < s
    · have hc : xs.contains s = true := by
        simp only [List.contains_cons, Bool.or_eq_true, beq_iff_eq] at h
        rcases h with h | h
        · omega
        · exact h
      obtain ⟨h1, h2⟩ := ih hs.2 hc
      have e : (if decide (x < s) = true then 1 else 0) = 1 := by simp [hx]
      rw [e]
      exact ⟨by simp; omega, by rw [List.getElem?_cons_succ]; exact h2⟩
    · have h0 : xs.countP (fun y => decide (y < s)) = 0 := by
        rw [List.countP_eq_zero]
        intro y hy
        have := hs.1 y hy
        simp only [List.contains_cons, Bool.or_eq_true, beq_iff_eq] at h
        simp
        omega
      have hxs : x = s := by
        simp only [List.contains_cons, Bool.or_eq_true, beq_iff_eq] at h
        rcases h with h | h
        · exact h.symm
        · have := hs.1 s (by simpa using h)
          omega
      rw [h0]
      have e : (if decide (x < s) = true then 1 else 0) = 0 := by simp [hx]
      rw [e]
      exact ⟨by simp, by simp [hxs]⟩
end
end Dr
end Go.Proofs.YtbgakdpbglpfaaaGreatDoor
-- the text DrI
namespace Go.Proofs.YtbgakdpbglpfaaaGreatDoor
open Go.RowKit
namespace Dr
set_option linter.unusedSimpArgs false
section
variable {w : World} {V : Vals} {S : House}
theorem buy_over {d : ByteArray} {s k : Nat} {c : Chest} (hk : lk d S.chests = some c) (hs : c.shut = false) (hc : c.sizes.contains s = true) (ho : 40 < c.stock.getD (pos s c.sizes) 0 + k) : doP S (.buy d s k) = (15, S) := by
  simp only [doP, hk, hs, hc, Bool.not_true, Bool.false_eq_true, if_false]; rw [if_pos ho]
theorem buy_yes {d : ByteArray} {s k : Nat} {c : Chest} (hk : lk d S.chests = some c) (hs : c.shut = false) (hc : c.sizes.contains s = true) (ho : ¬ 40 < c.stock.getD (pos s c.sizes) 0 + k) :
    doP S (.buy d s k) = (0, S.set d { c with stock := c.stock.set (pos s c.sizes) (c.stock.getD (pos s c.sizes) 0 + k), bought := c.bought + k * s }) := by
  simp only [doP, hk, hs, hc, Bool.not_true, Bool.false_eq_true, if_false]; rw [if_neg ho]
set_option maxRecDepth 100000 in
theorem buying_yes (H : HouseAt w V S) (hS : Oks S) (d : ByteArray) (s k : Nat) (hk40 : k ≤ 40) {c : Chest} (hk : lk d S.chests = some c) (hs : c.shut = false) (hc : c.sizes.contains s = true) :
    Calls Tryz.prog 227 #[.agg #[.string d, .int .i64 (s : Int), .int .i64 (k : Int)], V .house] w (DoPost V S w (doP S (.buy d s k))) := by
  have hco := hS d c hk
  have CA := H.ch d c hk
  obtain ⟨⟨g, hg, hB⟩, hsz, hst, hou⟩ := CA
  obtain ⟨hpl, hps⟩ := pos_lt hco.srt hc
  have hs30 := (hco.rng s (by simpa using hc)).2
  obtain ⟨i, hi⟩ : ∃ i, pos s c.sizes = i := ⟨_, rfl⟩
  have HPL : Hid (∀ (w' : World), Below w.heap.size w w' → Calls Tryz.prog 228 #[V .house, .string d, .int .i64 (s : Int)] w' fun e w2 => e = .returned (.tuple #[.pointer (some ⟨g, 0, none⟩), .int .i64 (i : Int), .int .i64 0]) ∧ ∃ q, w2 = w'.drewN q) := fun w' hb => by
    have h := place_any (H.callee hb) hS d s
    have e : placeR V S d s = .tuple #[.pointer (some ⟨g, 0, none⟩), .int .i64 (i : Int), .int .i64 0] := by
      simp only [placeR, hk, hs, hc, hi, hg]; simp
    rw [e] at h
    exact h
  obtain ⟨Ak, ck, hVk, hck, hcm, hRk, hAk⟩ := ownN_form hst
  obtain ⟨gk, rfl⟩ := hAk (by rw [hco.len]; omega)
  obtain ⟨n, hn⟩ : ∃ n, c.stock.length = n := ⟨_, rfl⟩
  rw [hn] at hVk hck
  have hin : i < n := by rw [← hn, hco.len, ← hi]; exact hpl
  obtain ⟨x, hx⟩ : ∃ x, c.stock[i]? = some x := ⟨_, List.getElem?_eq_getElem (by rw [hn]; exact hin)⟩
  have hx40 : x ≤ 40 := hco.stk x (List.mem_of_getElem? hx)
  have hgd : c.stock.getD i 0 = x := by rw [List.getD_eq_getElem?_getD, hx]; rfl
  have hbou := hco.bou
  unfold maxLen at hcm
  have bg : blkOf (V (.chest d)) = some g := by rw [hg]; rfl
  have bk : blkOf (V (.stock d)) = some gk := by rw [hVk]; rfl
  have ngk : g ≠ gk := H.ne_ bg bk (by simp)
  have hkl := H.lt ⟨_, bk⟩
  have hgl := hB.lt
  have hcell := (ownN_cell (by rw [← hVk]; exact hst) hn.symm hx)
  -- what the region reads
  have c1 : w.cell? ⟨g, 1, none⟩ = some (.slice (some ⟨gk, 0, none⟩) n ck) := hB.at_ 1 (congrArg some hVk)
  obtain ⟨hxc, hxf⟩ := hcell
  by_cases hov : 40 < x + k
  · -- too many
    have hdo := buy_over hk hs hc (k := k) (by rw [hi, hgd]; exact hov)
    have HP : Hid (∀ e w', e = .returned (.tuple #[.nilFunc, .int .i64 15]) → Below w.heap.size w w' → DoPost V S w (doP S (.buy d s k)) e w') := fun e w' he hb => by
      rw [hdo]
      exact .no H (by simp) he hb
    generalize hPo : DoPost V S w (doP S (.buy d s k)) = Po at HP ⊢
    obtain ⟨gh, hV, _⟩ := H.hs
    rw [hV] at HPL ⊢
    have hi0 : (0 : Int) ≤ i := by omega
    have hin' : (i : Int) < n := by omega
    have hsum : IntKind.i64.wrap ((x : Int) + k) = (x : Int) + k := IntWalk.i64_in _ (by omega)
    have hov' : decide ((40 : Int) < (x : Int) + k) = true := by simp; omega
    have HX := Lib.hid (And.intro hsum hov')
    clear hsum hov' hPo hdo hov hV hgd hx hx40 hbou hn hk hs hc hi hps hpl hs30 hVk hRk hAk hck hcm hsz hst hou hB H hS hco hg bg bk hxf
    go_enter Tryz.func227, Tryz.ntmps227
    go_wp2_with (first
      | (with_reducible show wpList _ _ _ (⟨_, .box 210 _, _, _, _, _⟩ :: _) _ _
         refine wpList_box_cells rfl 210 _ rfl (.agg #[.string d, .int .i64 (s : Int), .int .i64 (k : Int)]) #[.string d, .int .i64 (s : Int), .int .i64 (k : Int)] rfl rfl ?_
         intro w1 g1 hG1 hgr1 hge1
         have hb1 := below_grown hgr1
         have d0 : w1.cell? ⟨g1, 0, none⟩ = some (.string d) := hG1.at_ 0 rfl
         have d1 : w1.cell? ⟨g1, 1, none⟩ = some (.int .i64 (s : Int)) := hG1.at_ 1 rfl
         have d2 : w1.cell? ⟨g1, 2, none⟩ = some (.int .i64 (k : Int)) := hG1.at_ 2 rfl
         have d3 : w1.cell? ⟨g, 1, none⟩ = some (.slice (some ⟨gk, 0, none⟩) n ck) := (hb1.cell (p := ⟨g, 1, none⟩) hgl).trans c1
         have d4 : w1.cell? ⟨gk, i, none⟩ = some (.int .i64 (x : Int)) := (hb1.cell (p := ⟨gk, i, none⟩) hkl).trans hxc)
      | (go_at_call 228; (with_reducible refine (HPL.out _ hb1).mono ?_); rintro e w2 ⟨rfl, q2, rfl⟩))
    clear c1 hxc
    obtain ⟨hsum, hov'⟩ := HX.out
    clear HX
    have HB1 := Lib.hid hb1
    clear hb1 hgr1
    go_quiet (fail)
    go_wp2_with (fail)
    exact HP.out _ _ rfl (below_drewN (below_drewN HB1.out _) _)
  · have hdo := buy_yes hk hs hc (k := k) (by rw [hi, hgd]; exact hov)
    rw [hi, hgd] at hdo
    have HFIN : Hid (∀ f cap w', HouseAt w' (updC V d (V (.sizes d)) (V (.stock d)) (V (.outs d))) (S.set d { c with stock := c.stock.set i (x + k), bought := c.bought + k * s }) ∧ Frm (Foot V) w (Foot (updC V d (V (.sizes d)) (V (.stock d)) (V (.outs d)))) w' ∧ UndoOk f cap V S w w' →
        DoPost V S w (doP S (.buy d s k)) (.returned (.tuple #[.func (.func f) #[] cap, .int .i64 0])) w') := fun f cap w' h => by
      rw [hdo]
      exact Or.inr ⟨rfl, f, cap, _, rfl, h.1, updC_house _ _ _ _ _, h.2.1, h.2.2⟩
    have HCH : Hid (∀ w', Below w.heap.size w w' → Calls Tryz.prog 209 #[.pointer (some ⟨g, 0, none⟩)] w' fun e w4 => ∃ g1 g2 ws wk wo, e = .returned (.func (.func 219) #[] #[.pointer (some ⟨g2, 0, none⟩), .pointer (some ⟨g1, 0, none⟩)]) ∧ Kept w' w4 g g1 g2 ws wk wo c) := fun w' hb => by
      have h := ((H.callee hb).ch d c hk)
      rw [hg] at h
      exact change_any (by have := hco.five; omega) (by have := hco.five; have := hco.len; omega) (by have := hco.outl; omega) h
    have HDC := Lib.hid (fun (g3 g4 : Nat) (ws wk wo : Value) (w3 w4 w6 : World) => deed_chest (g3 := g3) (g4 := g4) (ws := ws) (wk := wk) (wo := wo) (vs' := V (.sizes d)) (vk' := V (.stock d)) (vo' := V (.outs d)) (w3 := w3) (w4 := w4) (w6 := w6) (c' := { c with stock := c.stock.set i (x + k), bought := c.bought + k * s }) H hk hg)
    generalize hPo : DoPost V S w (doP S (.buy d s k)) = Po at HFIN ⊢
    obtain ⟨gh, hV, _⟩ := H.hs
    have hks : k * s ≤ 1200 := Nat.le_trans (Nat.mul_le_mul hk40 hs30) (by decide)
    obtain ⟨m, hm⟩ : ∃ m, k * s = m := ⟨_, rfl⟩
    have hmul : (k : Int) * s = m := by rw [← hm]; simp
    have HH := Lib.hid H
    have HCO := Lib.hid hco
    have HG := Lib.hid hg
    have HVK := Lib.hid hVk
    have HN := Lib.hid hn
    have HLK := Lib.hid hk
    have HXI := Lib.hid hx
    have HBB := Lib.hid hB
    rw [hV] at HPL ⊢
    have hi0 : (0 : Int) ≤ i := by omega
    have hin' : (i : Int) < n := by omega
    have hsum : IntKind.i64.wrap ((x : Int) + k) = (x : Int) + k := IntWalk.i64_in _ (by omega)
    have hov' : decide ((40 : Int) < (x : Int) + k) = false := by simp; omega
    have hwm : IntKind.i64.wrap (m : Int) = m := IntWalk.i64_in _ (by omega)
    have hwb : IntKind.i64.wrap ((c.bought : Int) + m) = (c.bought : Int) + m := IntWalk.i64_in _ (by omega)
    have HX := Lib.hid (And.intro hsum (And.intro hov' (And.intro hwm (And.intro hwb hmul))))
    have HM := Lib.hid hm
    have c3 : w.cell? ⟨g, 3, none⟩ = some (.int .i64 (c.bought : Int)) := hB.at_ 3 rfl
    clear hsum hov' hPo hdo hov hV hgd hx hx40 hbou hn hk hs hc hi hps hpl hs30 hVk hRk hAk hck hcm hsz hst hou hB H hS hco hg bg bk hxf hwm hwb hks hmul hm
    go_enter Tryz.func227, Tryz.ntmps227
    go_wp2_with (first
      | (with_reducible show wpList _ _ _ (⟨_, .box 210 _, _, _, _, _⟩ :: _) _ _
         refine wpList_box_cells rfl 210 _ rfl (.agg #[.string d, .int .i64 (s : Int), .int .i64 (k : Int)]) #[.string d, .int .i64 (s : Int), .int .i64 (k : Int)] rfl rfl ?_
         intro w1 g1 hG1 hgr1 hge1
         have hb1 := below_grown hgr1
         have d0 : w1.cell? ⟨g1, 0, none⟩ = some (.string d) := hG1.at_ 0 rfl
         have d1 : w1.cell? ⟨g1, 1, none⟩ = some (.int .i64 (s : Int)) := hG1.at_ 1 rfl
         have d2 : w1.cell? ⟨g1, 2, none⟩ = some (.int .i64 (k : Int)) := hG1.at_ 2 rfl
         have d3 : w1.cell? ⟨g, 1, none⟩ = some (.slice (some ⟨gk, 0, none⟩) n ck) := (hb1.cell (p := ⟨g, 1, none⟩) hgl).trans c1
         have d4 : w1.cell? ⟨gk, i, none⟩ = some (.int .i64 (x : Int)) := (hb1.cell (p := ⟨gk, i, none⟩) hkl).trans hxc)
      | (go_at_call 228; (with_reducible refine (HPL.out _ hb1).mono ?_); rintro e w2 ⟨rfl, q2, rfl⟩))
    clear c1 hxc c3
    obtain ⟨hsum, hov', hwm, hwb, hmul⟩ := HX.out
    clear HX
    have HB1 := Lib.hid hb1
    have HG1 := Lib.hid hG1
    have HGE := Lib.hid hge1
    clear hb1 hgr1 hG1 hge1
    go_quiet (fail)
    go_wp2_with (first
      | (go_at_call 209; (with_reducible refine (HCH.out _ (below_drewN HB1.out (q2 + nq))).mono ?_)
         rintro e w4 ⟨g3, g4, ws, wk, wo, rfl, hK⟩))
    have HK := Lib.hid hK
    have HB3 : Hid (Below w.heap.size w (w1.drewN (q2 + nq))) := below_drewN HB1.out _
    have HB4 : Hid (Below w.heap.size w w4) := HB3.out.trans (hK.be.mono HB3.out.size)
    have HG14 : Hid (Blk w4 g1 210 #[.string d, .int .i64 (s : Int), .int .i64 (k : Int)]) := Blk.callee (w := w1.drewN (q2 + nq)) HG1.out hK.be
    have HB4g : Hid (Blk w4 g 103 (chestV (V (.sizes d)) (V (.stock d)) (V (.outs d)) c)) := HBB.out.callee HB4.out
    have HST4 : Hid (OwnN w4 (.slice (some ⟨gk, 0, none⟩) n ck) c.stock) := by rw [Hid, ← HVK.out]; exact OwnI.callee (HH.out.ch d c HLK.out).stock HB4.out
    have hcell4 := ownN_cell HST4.out HN.out.symm HXI.out
    have f4 := hcell4.2
    have n1 : g1 ≠ gk := fun e => by have := HGE.out; omega
    have n2 : g1 ≠ g := fun e => by have := HGE.out; omega
    have KF : Hid (w4.cell? ⟨g, 1, none⟩ = some (.slice (some ⟨gk, 0, none⟩) n ck) ∧ w4.cell? ⟨gk, i, none⟩ = some (.int .i64 (x : Int)) ∧ w4.cell? ⟨g1, 2, none⟩ = some (.int .i64 (k : Int))) := ⟨HB4g.out.at_ 1 (congrArg some HVK.out), hcell4.1, HG14.out.at_ 2 rfl⟩
    clear hK d0 d1 d2 d3 d4 hcell4 HB1 HG1
    refine De.region_chain (fun w' => w'.cell? ⟨g, 1, none⟩ = some (.slice (some ⟨gk, 0, none⟩) n ck) ∧ w'.cell? ⟨gk, i, none⟩ = some (.int .i64 (x : Int)) ∧ w'.cell? ⟨g1, 2, none⟩ = some (.int .i64 (k : Int))) (fun w' => w' = w4.drew) 11 11 [] rfl (by kernel_rfl) (by kernel_rfl) (fun w' hw' => ?ji1) rfl ?rd1
    case ji1 => (subst hw'; exact KF.out)
    refine De.Rd.read (o := ?o2) (v := ?v2) 0 (by decide) ?q2 (by kernel_rfl) (by kernel_rfl) (by kernel_rfl) ?w2 ?y2 ?h2
    case q2 => (simp only [De.g0, De.g1, De.g2]; rfl)
    case w2 => kernel_rfl
    case y2 => (intro w' hw'; obtain ⟨x1, x2, x3⟩ := hw'; go_simp; (try with_reducible rfl))
    (try simp only [Act.put, De.l0, De.l1, De.l2])
    refine De.Rd.read (o := ?o3) (v := ?v3) 1 (by decide) ?q3 (by kernel_rfl) (by kernel_rfl) (by kernel_rfl) ?w3 ?y3 ?h3
    case q3 => (simp only [De.g0, De.g1, De.g2]; rfl)
    case w3 => kernel_rfl
    case y3 => (intro w' hw'; obtain ⟨x1, x2, x3⟩ := hw'; go_simp; (try with_reducible rfl))
    (try simp only [Act.put, De.l0, De.l1, De.l2])
    refine De.Rd.read (o := ?o4) (v := ?v4) 2 (by decide) ?q4 (by kernel_rfl) (by kernel_rfl) (by kernel_rfl) ?w4 ?y4 ?h4
    case q4 => (simp only [De.g0, De.g1, De.g2]; rfl)
    case w4 => kernel_rfl
    case y4 => (intro w' hw'; obtain ⟨x1, x2, x3⟩ := hw'; go_simp; (try with_reducible rfl))
    (try simp only [Act.put, De.l0, De.l1, De.l2])
    refine De.Rd.read (o := ?o5) (v := ?v5) 3 (by decide) ?q5 (by kernel_rfl) (by kernel_rfl) (by kernel_rfl) ?w5 ?y5 ?h5
    case q5 => (simp only [De.g0, De.g1, De.g2]; rfl)
    case w5 => kernel_rfl
    case y5 => (intro w' hw'; obtain ⟨x1, x2, x3⟩ := hw'; go_simp; (try with_reducible rfl))
    (try simp only [Act.put, De.l0, De.l1, De.l2])
    refine De.Rd.read (o := ?o6) (v := ?v6) 4 (by decide) ?q6 (by kernel_rfl) (by kernel_rfl) (by kernel_rfl) ?w6 ?y6 ?h6
    case q6 => (simp only [De.g0, De.g1, De.g2]; rfl)
    case w6 => kernel_rfl
    case y6 => (intro w' hw'; obtain ⟨x1, x2, x3⟩ := hw'; go_simp; (try with_reducible rfl))
    (try simp only [Act.put, De.l0, De.l1, De.l2])
    refine De.Rd.read (o := ?o7) (v := ?v7) 5 (by decide) ?q7 (by kernel_rfl) (by kernel_rfl) (by kernel_rfl) ?w7 ?y7 ?h7
    case q7 => (simp only [De.g0, De.g1, De.g2]; rfl)
    case w7 => kernel_rfl
    case y7 => (intro w' hw'; obtain ⟨x1, x2, x3⟩ := hw'; go_simp; (try with_reducible rfl))
    (try simp only [Act.put, De.l0, De.l1, De.l2])
    refine De.Rd.read (o := ?o8) (v := ?v8) 6 (by decide) ?q8 (by kernel_rfl) (by kernel_rfl) (by kernel_rfl) ?w8 ?y8 ?h8
    case q8 => (simp only [De.g0, De.g1, De.g2]; rfl)
    case w8 => kernel_rfl
    case y8 => (intro w' hw'; obtain ⟨x1, x2, x3⟩ := hw'; go_simp; (try with_reducible rfl))
    (try simp only [Act.put, De.l0, De.l1, De.l2])
    refine De.Rd.read (o := ?o9) (v := ?v9) 7 (by decide) ?q9 (by kernel_rfl) (by kernel_rfl) (by kernel_rfl) ?w9 ?y9 ?h9
    case q9 => (simp only [De.g0, De.g1, De.g2]; rfl)
    case w9 => kernel_rfl
    case y9 => (intro w' hw'; obtain ⟨x1, x2, x3⟩ := hw'; go_simp; (try with_reducible rfl))
    (try simp only [Act.put, De.l0, De.l1, De.l2])
    refine De.Rd.read (o := ?o10) (v := ?v10) 8 (by decide) ?q10 (by kernel_rfl) (by kernel_rfl) (by kernel_rfl) ?w10 ?y10 ?h10
    case q10 => (simp only [De.g0, De.g1, De.g2]; rfl)
    case w10 => kernel_rfl
    case y10 => (intro w' hw'; obtain ⟨x1, x2, x3⟩ := hw'; go_simp; (try with_reducible rfl))
    (try simp only [Act.put, De.l0, De.l1, De.l2])
    refine De.Rd.read (o := ?o11) (v := ?v11) 9 (by decide) ?q11 (by kernel_rfl) (by kernel_rfl) (by kernel_rfl) ?w11 ?y11 ?h11
    case q11 => (simp only [De.g0, De.g1, De.g2]; rfl)
    case w11 => kernel_rfl
    case y11 => (intro w' hw'; obtain ⟨x1, x2, x3⟩ := hw'; go_simp; (try with_reducible rfl))
    (try simp only [Act.put, De.l0, De.l1, De.l2])
    refine De.Rd.read (o := ?o12) (v := ?v12) 10 (by decide) ?q12 (by kernel_rfl) (by kernel_rfl) (by kernel_rfl) ?w12 ?y12 ?h12
    case q12 => (simp only [De.g0, De.g1, De.g2]; rfl)
    case w12 => kernel_rfl
    case y12 => (intro w' hw'; obtain ⟨x1, x2, x3⟩ := hw'; go_simp; (try with_reducible rfl))
    (try simp only [Act.put, De.l0, De.l1, De.l2])
    refine De.Rd.tail (fun w' hw' => ?_)
    subst hw'
    have c4 : w4.cell? ⟨gk, i, none⟩ = some (.int .i64 (x : Int)) := KF.out.2.1
    (try simp only [Act.put, De.l0, De.l1, De.l2])
    (try refine De.MidP.tail ?_)
    refine De.Tl.write (o := ?o13) (by kernel_rfl) ?q13 ?g13 ?h13
    case q13 => (simp only [De.g0, De.g1, De.g2]; rfl)
    case g13 => rfl
    refine wp_setcell 3 _ _ rfl gk i (.int .i64 ((x : Int) + k)) rfl rfl (by go_simp) ?_
    refine ⟨⟨_, rfl⟩, fun h => absurd rfl h, ?_⟩
    (try refine De.MidP.tail ?_)
    refine De.Tl.done (by kernel_rfl) ?_
    (try simp only [Act.put, De.l0, De.l1, De.l2])
    obtain ⟨w5, hw5⟩ : ∃ y, y = w4.drew.setCell ⟨gk, i, none⟩ (.int .i64 ((x : Int) + k)) := ⟨_, rfl⟩
    rw [← hw5]
    have st5 : ∀ j, j ≠ gk → w5.heap[j]? = w4.heap[j]? := fun j hj => by rw [hw5]; exact Below.heap_setCell w4.drew ⟨gk, i, none⟩ _ j hj
    have HST5 : Hid (OwnN w5 (.slice (some ⟨gk, 0, none⟩) n ck) (c.stock.set i (x + k))) := by
      rw [hw5]
      have h := ownN_set (w := w4.drew) HST4.out HN.out.symm i (x + k)
      rw [Int.natCast_add] at h
      exact h
    have HX5 : Hid (w5.os = w4.os ∧ w5.tape = w4.tape ∧ w5.output = w4.output ∧ w5.heap.size = w4.heap.size) := by rw [hw5]; exact ⟨rfl, rfl, rfl, by simp⟩
    have HG5 : Hid (Blk w5 g 103 (chestV (V (.sizes d)) (V (.stock d)) (V (.outs d)) c)) := (st5 g ngk).trans HB4g.out
    have HG15 : Hid (Blk w5 g1 210 #[.string d, .int .i64 (s : Int), .int .i64 (k : Int)]) := (st5 g1 n1).trans HG14.out
    have KF5 : Hid (w5.cell? ⟨g, 3, none⟩ = some (.int .i64 (c.bought : Int)) ∧ w5.cell? ⟨g1, 2, none⟩ = some (.int .i64 (k : Int)) ∧ w5.cell? ⟨g1, 1, none⟩ = some (.int .i64 (s : Int))) := ⟨HG5.out.at_ 3 rfl, HG15.out.at_ 2 rfl, HG15.out.at_ 1 rfl⟩
    have HT5 := Lib.hid st5
    clear hw5 c4 f4 st5
    go_wp2_with (fail)
    refine De.region_chain (fun w' => w'.cell? ⟨g, 3, none⟩ = some (.int .i64 (c.bought : Int)) ∧ w'.cell? ⟨g1, 2, none⟩ = some (.int .i64 (k : Int)) ∧ w'.cell? ⟨g1, 1, none⟩ = some (.int .i64 (s : Int))) (fun w' => w' = w5.drew) 12 12 [] rfl (by kernel_rfl) (by kernel_rfl) (fun w' hw' => ?ji14) rfl ?rd14
    case ji14 => (subst hw'; exact KF5.out)
    refine De.Rd.read (o := ?o15) (v := ?v15) 0 (by decide) ?q15 (by kernel_rfl) (by kernel_rfl) (by kernel_rfl) ?w15 ?y15 ?h15
    case q15 => (simp only [De.g0, De.g1, De.g2]; rfl)
    case w15 => kernel_rfl
    case y15 => (intro w' hw'; obtain ⟨x1, x2, x3⟩ := hw'; go_simp; (try with_reducible rfl))
    (try simp only [Act.put, De.l0, De.l1, De.l2])
    refine De.Rd.read (o := ?o16) (v := ?v16) 1 (by decide) ?q16 (by kernel_rfl) (by kernel_rfl) (by kernel_rfl) ?w16 ?y16 ?h16
    case q16 => (simp only [De.g0, De.g1, De.g2]; rfl)
    case w16 => kernel_rfl
    case y16 => (intro w' hw'; obtain ⟨x1, x2, x3⟩ := hw'; go_simp; (try with_reducible rfl))
    (try simp only [Act.put, De.l0, De.l1, De.l2])
    refine De.Rd.read (o := ?o17) (v := ?v17) 2 (by decide) ?q17 (by kernel_rfl) (by kernel_rfl) (by kernel_rfl) ?w17 ?y17 ?h17
    case q17 => (simp only [De.g0, De.g1, De.g2]; rfl)
    case w17 => kernel_rfl
    case y17 => (intro w' hw'; obtain ⟨x1, x2, x3⟩ := hw'; go_simp; (try with_reducible rfl))
    (try simp only [Act.put, De.l0, De.l1, De.l2])
    refine De.Rd.read (o := ?o18) (v := ?v18) 3 (by decide) ?q18 (by kernel_rfl) (by kernel_rfl) (by kernel_rfl) ?w18 ?y18 ?h18
    case q18 => (simp only [De.g0, De.g1, De.g2]; rfl)
    case w18 => kernel_rfl
    case y18 => (intro w' hw'; obtain ⟨x1, x2, x3⟩ := hw'; go_simp; (try with_reducible rfl))
    (try simp only [Act.put, De.l0, De.l1, De.l2])
    refine De.Rd.read (o := ?o19) (v := ?v19) 4 (by decide) ?q19 (by kernel_rfl) (by kernel_rfl) (by kernel_rfl) ?w19 ?y19 ?h19
    case q19 => (simp only [De.g0, De.g1, De.g2]; rfl)
    case w19 => kernel_rfl
    case y19 => (intro w' hw'; obtain ⟨x1, x2, x3⟩ := hw'; go_simp; (try with_reducible rfl))
    (try simp only [Act.put, De.l0, De.l1, De.l2])
    refine De.Rd.read (o := ?o20) (v := ?v20) 5 (by decide) ?q20 (by kernel_rfl) (by kernel_rfl) (by kernel_rfl) ?w20 ?y20 ?h20
    case q20 => (simp only [De.g0, De.g1, De.g2]; rfl)
    case w20 => kernel_rfl
    case y20 => (intro w' hw'; obtain ⟨x1, x2, x3⟩ := hw'; go_simp; (try with_reducible rfl))
    (try simp only [Act.put, De.l0, De.l1, De.l2])
    refine De.Rd.read (o := ?o21) (v := ?v21) 6 (by decide) ?q21 (by kernel_rfl) (by kernel_rfl) (by kernel_rfl) ?w21 ?y21 ?h21
    case q21 => (simp only [De.g0, De.g1, De.g2]; rfl)
    case w21 => kernel_rfl
    case y21 => (intro w' hw'; obtain ⟨x1, x2, x3⟩ := hw'; go_simp; (try with_reducible rfl))
    (try simp only [Act.put, De.l0, De.l1, De.l2])
    refine De.Rd.read (o := ?o22) (v := ?v22) 7 (by decide) ?q22 (by kernel_rfl) (by kernel_rfl) (by kernel_rfl) ?w22 ?y22 ?h22
    case q22 => (simp only [De.g0, De.g1, De.g2]; rfl)
    case w22 => kernel_rfl
    case y22 => (intro w' hw'; obtain ⟨x1, x2, x3⟩ := hw'; go_simp; (try with_reducible rfl))
    (try simp only [Act.put, De.l0, De.l1, De.l2])
    refine De.Rd.read (o := ?o23) (v := ?v23) 8 (by decide) ?q23 (by kernel_rfl) (by kernel_rfl) (by kernel_rfl) ?w23 ?y23 ?h23
    case q23 => (simp only [De.g0, De.g1, De.g2]; rfl)
    case w23 => kernel_rfl
    case y23 => (intro w' hw'; obtain ⟨x1, x2, x3⟩ := hw'; go_simp; (try with_reducible rfl))
    (try simp only [Act.put, De.l0, De.l1, De.l2])
    refine De.Rd.read (o := ?o24) (v := ?v24) 9 (by decide) ?q24 (by kernel_rfl) (by kernel_rfl) (by kernel_rfl) ?w24 ?y24 ?h24
    case q24 => (simp only [De.g0, De.g1, De.g2]; rfl)
    case w24 => kernel_rfl
    case y24 => (intro w' hw'; obtain ⟨x1, x2, x3⟩ := hw'; go_simp; (try with_reducible rfl))
    (try simp only [Act.put, De.l0, De.l1, De.l2])
    refine De.Rd.read (o := ?o25) (v := ?v25) 10 (by decide) ?q25 (by kernel_rfl) (by kernel_rfl) (by kernel_rfl) ?w25 ?y25 ?h25
    case q25 => (simp only [De.g0, De.g1, De.g2]; rfl)
    case w25 => kernel_rfl
    case y25 => (intro w' hw'; obtain ⟨x1, x2, x3⟩ := hw'; go_simp; (try with_reducible rfl))
    (try simp only [Act.put, De.l0, De.l1, De.l2])
    refine De.Rd.read (o := ?o26) (v := ?v26) 11 (by decide) ?q26 (by kernel_rfl) (by kernel_rfl) (by kernel_rfl) ?w26 ?y26 ?h26
    case q26 => (simp only [De.g0, De.g1, De.g2]; rfl)
    case w26 => kernel_rfl
    case y26 => (intro w' hw'; obtain ⟨x1, x2, x3⟩ := hw'; go_simp; (try with_reducible rfl))
    (try simp only [Act.put, De.l0, De.l1, De.l2])
    refine De.Rd.tail (fun w' hw' => ?_)
    subst hw'
    have c5 : w5.cell? ⟨g, 3, none⟩ = some (.int .i64 (c.bought : Int)) := KF5.out.1
    have f5 := HG5.out.frozen 3
    (try simp only [Act.put, De.l0, De.l1, De.l2])
    (try refine De.MidP.tail ?_)
    refine De.Tl.write (o := ?o27) (by kernel_rfl) ?q27 ?g27 ?h27
    case q27 => (simp only [De.g0, De.g1, De.g2]; rfl)
    case g27 => rfl
    refine wp_setcell 3 _ _ rfl g 3 (.int .i64 ((c.bought : Int) + m)) rfl rfl (by go_simp) ?_
    refine ⟨⟨_, rfl⟩, fun h => absurd rfl h, ?_⟩
    (try refine De.MidP.tail ?_)
    refine De.Tl.done (by kernel_rfl) ?_
    (try simp only [Act.put, De.l0, De.l1, De.l2])
    obtain ⟨w6, hw6⟩ : ∃ y, y = w5.drew.setCell ⟨g, 3, none⟩ (.int .i64 ((c.bought : Int) + m)) := ⟨_, rfl⟩
    rw [← hw6]
    have st6 : ∀ j, j ≠ g → w6.heap[j]? = w5.heap[j]? := fun j hj => by rw [hw6]; exact Below.heap_setCell w5.drew ⟨g, 3, none⟩ _ j hj
    have HG6 : Hid (Blk w6 g 103 #[V (.sizes d), V (.stock d), .bool c.shut, .int .i64 ((c.bought : Int) + m), .int .i64 (c.eaten : Int), V (.outs d)]) := by rw [hw6]; exact Blk.set_ (w := w5.drew) HG5.out 3 _
    have HX6 : Hid (w6.os = w5.os ∧ w6.tape = w5.tape ∧ w6.output = w5.output ∧ w6.heap.size = w5.heap.size) := by rw [hw6]; exact ⟨rfl, rfl, rfl, by simp⟩
    have HT6 := Lib.hid st6
    clear hw6 c5 f5 st6 hsum hov' hwm hwb hmul
    go_wp2_with (fail)
    have H := HH.out
    have CA := H.ch d c HLK.out
    have bg : blkOf (V (.chest d)) = some g := by rw [HG.out]; rfl
    have bk : blkOf (V (.stock d)) = some gk := by rw [HVK.out]; rfl
    have hT : ∀ j, j ≠ g → j ≠ gk → w6.heap[j]? = w4.heap[j]? := fun j h1 h2 => (HT6.out j h1).trans (HT5.out j h2)
    have hsz4 := HB4.out.size
    have far : ∀ {r : Role} {j : Nat}, blkOf (V r) = some j → r ≠ .chest d → r ≠ .stock d → w6.heap[j]? = w4.heap[j]? := fun hr r1 r2 => hT _ (H.ne_ hr bg r1) (H.ne_ hr bk r2)
    refine HFIN.out _ _ _ (HDC.out g3 g4 ws wk wo _ w4 w6 HB3.out HK.out ⟨HX6.out.1.trans HX5.out.1, HX6.out.2.1.trans HX5.out.2.1, HX6.out.2.2.1.trans HX5.out.2.2.1, by rw [HX6.out.2.2.2, HX5.out.2.2.2]; exact Nat.le_refl _⟩
      (fun j hj h1 h2 h3 h4 => hT j h1 (fun e => h3 (by rw [e]; exact bk))) ⟨⟨g, HG.out, ?_⟩, ?_, ?_, ?_⟩ (.self _ _ _) (.self _ _ _) (.self _ _ _) (H.apart (by simp)) (H.apart (by simp)) (H.apart (by simp)))
    · have h := HG6.out
      rw [← HM.out] at h
      rw [show ((c.bought + k * s : Nat) : Int) = (c.bought : Int) + ((k * s : Nat) : Int) by simp]
      exact h
    · exact OwnI.same (OwnI.callee CA.sizes HB4.out) fun j hj => far hj (by simp) (by simp)
    · rw [HVK.out]
      exact OwnI.same HST5.out fun j hj => HT6.out j (by
        obtain rfl : gk = j := by injection hj
        exact Ne.symm ngk)
    · exact OwnS.same (OwnS.callee CA.out HB4.out) fun j hj => far hj (by simp) (by simp)
end
end Dr
end Go.Proofs.YtbgakdpbglpfaaaGreatDoor
