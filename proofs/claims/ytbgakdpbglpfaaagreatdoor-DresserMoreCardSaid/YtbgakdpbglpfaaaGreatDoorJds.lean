/- The texts DrS to DrT, joined by joinlist.py: their statements say what each proves. -/
import Derived.Shelf.Spec.SlicesInsert
import Derived.Shelf.Spec.SlicesInsertGrow
import Derived.Test.YtbgakdpbglpfaaaGreatDoorJdf
import Derived.Test.YtbgakdpbglpfaaaGreatDoorJdj
-- the text DrS
namespace Go.Proofs.YtbgakdpbglpfaaaGreatDoor
open Go.RowKit
namespace Dr
def insRen : Go.Shelf.Ren := ⟨fun | 21 => 218 | 27 => 222 | 28 => 223 | 35 => 225 | 39 => 226 | n => n, fun | 22 => 40 | 3 => 3 | 4 => 4 | 0 => 0 | n => n, fun | n => n⟩
theorem insLays : Go.Proofs.Lays2.n21 Tryz.prog insRen := {
  mixed := by kernel_rfl
  f21 := Tryz.func218.trans (congrArg some (by kernel_rfl))
  f27 := Tryz.func222.trans (congrArg some (by kernel_rfl))
  f28 := Tryz.func223.trans (congrArg some (by kernel_rfl))
  f35 := Tryz.func225.trans (congrArg some (by kernel_rfl))
  f39 := Tryz.func226.trans (congrArg some (by kernel_rfl))
  t0 := Tryz.underlying0
  a0 := Tryz.isAgg0
  z0 := Tryz.sizeOf0
  v0 := Tryz.zeroValue0
  t3 := Tryz.underlying3
  a3 := Tryz.isAgg3
  z3 := Tryz.sizeOf3
  v3 := Tryz.zeroValue3
  t4 := Tryz.underlying4
  a4 := Tryz.isAgg4
  z4 := Tryz.sizeOf4
  v4 := Tryz.zeroValue4
  t22 := Tryz.underlying40
  a22 := Tryz.isAgg40
  z22 := Tryz.sizeOf40
  v22 := Tryz.zeroValue40
  i3 := by kernel_rfl }
/-- a block behind a row of stores -/
theorem blk_setCells {g : Nat} {t : TypeId} : ∀ (vs : List Value) (o : Nat) (w : World) (cs : Array Value), Blk w g t cs → ∃ cs', Blk (w.setCells g o vs) g t cs' ∧ cs'.size = cs.size ∧ (∀ j, j < o → cs'[j]? = cs[j]?) ∧ (∀ j v, vs[j]? = some v → o + j < cs.size → cs'[o + j]? = some v) ∧ (∀ j, o + vs.length ≤ j → cs'[j]? = cs[j]?) := by
  intro vs
  induction vs with
  | nil => intro o w cs h; exact ⟨cs, h, rfl, fun _ _ => rfl, fun j v hj => by simp at hj, fun _ _ => rfl⟩
  | cons v vs ih =>
    intro o w cs h
    obtain ⟨cs', h1, h2, h3, h4, h5⟩ := ih (o + 1) _ _ (h.set_ o v)
    refine ⟨cs', h1, by rw [h2]; simp, fun j hj => ?_, fun j u hj hlt => ?_, fun j hj => ?_⟩
    · rw [h3 j (by omega), Array.getElem?_setIfInBounds, if_neg (by omega)]
    · cases j with
      | zero =>
        simp at hj
        subst hj
        rw [Nat.add_zero, h3 o (by omega), Array.getElem?_setIfInBounds, if_pos rfl, if_pos (by omega)]
      | succ j =>
        rw [show o + (j + 1) = o + 1 + j by omega]
        exact h4 j u (by simpa using hj) (by simp; omega)
    · rw [h5 j (by simp at hj; omega), Array.getElem?_setIfInBounds, if_neg (by simp at hj; omega)]
theorem setCells_far {g : Nat} : ∀ (vs : List Value) (o : Nat) (w : World) (i : Nat), i ≠ g → (w.setCells g o vs).heap[i]? = w.heap[i]? := by
  intro vs
  induction vs with
  | nil => intro o w i _; rfl
  | cons v vs ih => intro o w i hi; rw [World.setCells, ih _ _ _ hi]; exact Below.heap_setCell w ⟨g, o, none⟩ v i hi
theorem setCells_rest {g : Nat} : ∀ (vs : List Value) (o : Nat) (w : World), (w.setCells g o vs).os = w.os ∧ (w.setCells g o vs).tape = w.tape ∧ (w.setCells g o vs).output = w.output ∧ (w.setCells g o vs).heap.size = w.heap.size := by
  intro vs
  induction vs with
  | nil => intro o w; exact ⟨rfl, rfl, rfl, rfl⟩
  | cons v vs ih =>
    intro o w
    rw [World.setCells]
    obtain ⟨h1, h2, h3, h4⟩ := ih (o + 1) (w.setCell ⟨g, o, none⟩ v)
    exact ⟨h1, h2, h3, by rw [h4]; simp⟩
/-- what an append or an insert does to memory: the slice's own block may be written, new ones are made -/
structure Grew (w w' : World) (v v' : Value) : Prop where
  os : w'.os = w.os
  tape : w'.tape = w.tape
  output : w'.output = w.output
  size : w.heap.size ≤ w'.heap.size
  block : ∀ i, i < w.heap.size → blkOf v ≠ some i → w'.heap[i]? = w.heap[i]?
  new : ∀ g, blkOf v' = some g → blkOf v = some g ∨ w.heap.size ≤ g
theorem insV_at {xs : List Nat} {i x j : Nat} (hi : i ≤ xs.length) : (ints (natI (insAt i x xs)))[j]? = if j < i then (ints (natI xs))[j]? else if j = i then some (.int .i64 (x : Int)) else (ints (natI xs))[j - 1]? := by
  unfold ints natI insAt
  simp only [List.map_append, List.map_cons, List.map_take, List.map_drop, List.map_map]
  by_cases h1 : j < i
  · rw [if_pos h1, List.getElem?_append_left (by simp; omega), List.getElem?_take, if_pos h1]
  · rw [if_neg h1, List.getElem?_append_right (by simp; omega), List.length_take, List.length_map, Nat.min_eq_left hi]
    by_cases h2 : j = i
    · subst h2; rw [if_pos rfl, Nat.sub_self]; rfl
    · rw [if_neg h2, show j - i = (j - i - 1) + 1 by omega, List.getElem?_cons_succ, List.getElem?_drop, show i + (j - i - 1) = j - 1 by omega]
theorem insAt_length {xs : List Nat} {i x : Nat} (hi : i ≤ xs.length) : (insAt i x xs).length = xs.length + 1 := by
  unfold insAt
  simp
  omega
/-- a row, from what its block holds -/
theorem own_of_blk {w : World} {g c m : Nat} {cs : Array Value} {xs : List Nat} (h : Blk w g 3 cs) (hs : cs.size = c) (hc : xs.length ≤ c) (hm : c ≤ maxLen) (hl : m = xs.length) (hx : ∀ j, j < xs.length → cs[j]? = (ints (natI xs))[j]?) : OwnN w (.slice (some ⟨g, 0, none⟩) m c) xs := by
  subst hl
  unfold OwnN OwnI
  rw [natI_length]
  refine ⟨by simp [ints, natI], Or.inr ⟨g, c, cs, rfl, Nat.zero_le _, h, hc, hm, by omega, ?_⟩⟩
  apply List.ext_getElem?
  intro j
  rw [List.getElem?_take]
  by_cases hj : j < xs.length
  · rw [if_pos (by omega), Array.getElem?_toList, hx j hj]
  · rw [if_neg (by omega), List.getElem?_eq_none (by simp [ints, natI]; omega)]
theorem oneI {xs : List Nat} : ∀ v ∈ ints (natI xs), v.oneCell' = true := by
  intro v hv
  unfold ints natI at hv
  rw [List.map_map] at hv
  obtain ⟨x, _, rfl⟩ := List.mem_map.1 hv
  rfl
theorem insT : insRen.t 3 = 3 := rfl
theorem zeroCells_size (n : Nat) : (Builtin.zeroCells (Value.int .i64 0).cells n).size = n := by
  simp [Builtin.zeroCells, Value.cells]
theorem insert_any {w : World} {v : Value} {xs : List Nat} (h : OwnN w v xs) (hl : xs.length ≤ 1000) (i x : Nat) (hi : i ≤ xs.length) {gx : Nat} (hx : Blk w gx 3 #[.int .i64 (x : Int)]) (hne : blkOf v ≠ some gx) :
    Calls Tryz.prog 218 #[v, .int .i64 (i : Int), .slice (some ⟨gx, 0, none⟩) 1 1] w fun e w' => ∃ v', e = .returned v' ∧ OwnN w' v' (insAt i x xs) ∧ Grew w w' v v' := by
  have hob := own_blk h
  have hil := insAt_length (x := x) hi
  have hvs : ∀ j u, [Value.int .i64 (x : Int)][j]? = some u → w.cell? ⟨gx, 0 + j, none⟩ = some u := fun j u hj => by
    cases j with
    | zero => simp at hj; subst hj; exact hx.at_ 0 rfl
    | succ j => simp at hj
  have h1v : ∀ u ∈ [Value.int .i64 (x : Int)], u.oneCell' = true := by simp [Value.oneCell']
  have hlen : (ints (natI xs)).length = xs.length := by simp [ints, natI]
  have hgl := hx.lt
  have h0 := h
  unfold OwnN OwnI at h0
  rw [natI_length] at h0
  rcases h0.2 with ⟨rfl, hz⟩ | ⟨g, c, cur, rfl, _, hg, hc, hm, hsz, htk⟩
  · -- nil
    have hxs : xs = [] := List.eq_nil_of_length_eq_zero hz
    subst hxs
    obtain rfl : i = 0 := by simpa using hi
    refine (Go.Proofs.Any2.slices_Insert_int_end_grow insLays none 0 0 gx 0 1 1 [] [.int .i64 (x : Int)] w (by decide) (Nat.le_refl _) (by decide) (by decide) rfl rfl (fun _ => rfl) (fun a ha => by cases ha) hvs h1v).mono ?_
    rintro e w' ⟨rfl, rfl⟩
    simp only [insT]
    refine ⟨_, rfl, ?_, ⟨rfl, rfl, rfl, by show w.heap.size ≤ (w.heap.push _).size; simp, fun j hj _ => Below.heap_alloc w.drew _ j hj, fun g hg => Or.inr (by injection hg with hg; exact Nat.le_of_eq hg)⟩⟩
    have hge := grownCap_ge w (0 + 1) 0 3
    refine own_of_blk (Blk.new w.drew 3 _) ?_ (by rw [hil]; exact hge) (grownCap_le_maxLen w _ _ _ (by decide)) (by rw [hil]; rfl) (fun j hj => ?_)
    · show Array.size (_ ++ _) = grownCap w (0 + 1) 0 3
      have hge' : 1 ≤ grownCap w 1 0 3 := hge
      rw [Array.size_append, zeroCells_size]
      simp
      omega
    · rw [hil] at hj
      obtain rfl : j = 0 := by simpa using hj
      rw [Array.getElem?_append_left (by simp)]
      rfl
  · have hgx : g ≠ gx := fun e => hne (by rw [e]; rfl)
    have hB : Blk w g 3 cur := hg
    have hsz' : cur.size = c := by omega
    have hcs : ∀ j u, (ints (natI xs))[j]? = some u → w.cell? ⟨g, 0 + j, none⟩ = some u := fun j u hj => by
      have hj2 : j < xs.length := by have := (List.getElem?_eq_some_iff.1 hj).1; omega
      rw [Nat.zero_add, hB.cell j, ← Array.getElem?_toList, ← hj, ← htk, List.getElem?_take, if_pos (by omega)]
    have hcur : ∀ j, j < xs.length → cur[j]? = (ints (natI xs))[j]? := fun j hj => by rw [← htk, List.getElem?_take, if_pos (by omega), Array.getElem?_toList]
    have hm' := hm
    unfold maxLen at hm'
    by_cases hroom : xs.length + 1 ≤ c
    · -- in place
      by_cases hie : i = xs.length
      · subst hie
        refine (Go.Proofs.Any2.slices_Insert_int_end_room insLays g 0 xs.length c gx 0 1 1 [.int .i64 (x : Int)] w (by decide) hroom (by omega) rfl (fun j hj => ?_) (fun j _ => hB.frozen _) hvs h1v).mono ?_
        · rw [hB.cell, Array.getElem?_eq_getElem (by omega)]; rfl
        · rintro e w' ⟨rfl, rfl⟩
          obtain ⟨cs', q1, q2, q3, q4, q5⟩ := blk_setCells [Value.int .i64 (x : Int)] (0 + xs.length) w cur hB
          obtain ⟨r1, r2, r3, r4⟩ := setCells_rest (g := g) [Value.int .i64 (x : Int)] (0 + xs.length) w
          refine ⟨_, rfl, own_of_blk q1 (by omega) (by rw [hil]; exact hroom) hm (by rw [hil]) (fun j hj => ?_), ⟨r1, r2, r3, by rw [r4]; exact Nat.le_refl _, fun j _ hn => setCells_far _ _ _ j (fun e => hn (by rw [e]; rfl)), fun k hk => Or.inl hk⟩⟩
          rw [hil] at hj
          rw [insV_at (Nat.le_refl _)]
          by_cases h1 : j < xs.length
          · rw [if_pos h1, q3 j (by omega), hcur j h1]
          · obtain rfl : j = xs.length := by omega
            rw [if_neg h1, if_pos rfl]
            have := q4 0 _ rfl (by omega)
            simpa using this
      · have hilt : i < xs.length := by omega
        refine (Go.Proofs.Any2.slices_Insert_int_shift insLays g 0 xs.length c i gx 0 1 1 (ints (natI xs)) [.int .i64 (x : Int)] w hilt (by decide) hroom (by omega) (Ne.symm hgx) hlen rfl hcs (fun j hj => ?_) (fun j _ => hB.frozen _) hvs oneI h1v
          3 3 1 cur.size ?_ ?_ (by omega) (hx.frozen 0) (hx.frozen 1)).mono ?_
        · rw [hB.cell, Array.getElem?_eq_getElem (by omega)]; rfl
        · unfold World.shape?
          unfold Blk at hx
          rw [hx]; rfl
        · unfold World.shape?
          rw [hg]
        · rintro e w' ⟨rfl, rfl⟩
          obtain ⟨cs1, p1, p2, p3, p4, p5⟩ := blk_setCells ((ints (natI xs)).drop i) (0 + (i + 1)) w.drew cur hB.drew
          obtain ⟨cs', q1, q2, q3, q4, q5⟩ := blk_setCells [Value.int .i64 (x : Int)] (0 + i) _ cs1 p1
          obtain ⟨s1, s2, s3, s4⟩ := setCells_rest (g := g) ((ints (natI xs)).drop i) (0 + (i + 1)) w.drew
          obtain ⟨r1, r2, r3, r4⟩ := setCells_rest (g := g) [Value.int .i64 (x : Int)] (0 + i) (w.drew.setCells g (0 + (i + 1)) ((ints (natI xs)).drop i))
          refine ⟨_, rfl, own_of_blk q1 (by omega) (by rw [hil]; exact hroom) hm (by rw [hil]) (fun j hj => ?_), ⟨r1.trans s1, r2.trans s2, r3.trans s3, by rw [r4, s4]; exact Nat.le_refl _, fun j _ hn => (setCells_far _ _ _ j (fun e => hn (by rw [e]; rfl))).trans (setCells_far _ _ _ j (fun e => hn (by rw [e]; rfl))), fun k hk => Or.inl hk⟩⟩
          rw [hil] at hj
          rw [insV_at hi]
          by_cases h1 : j < i
          · rw [if_pos h1, q3 j (by omega), p3 j (by omega), hcur j (by omega)]
          · rw [if_neg h1]
            by_cases h2 : j = i
            · subst h2
              rw [if_pos rfl]
              have := q4 0 _ rfl (by omega)
              simpa using this
            · rw [if_neg h2, q5 j (by simp; omega)]
              obtain ⟨u, hu⟩ : ∃ u, (ints (natI xs))[j - 1]? = some u := ⟨_, List.getElem?_eq_getElem (by omega)⟩
              have := p4 (j - 1 - i) u (by rw [List.getElem?_drop, show i + (j - 1 - i) = j - 1 by omega]; exact hu) (by omega)
              rw [hu, ← this, show 0 + (i + 1) + (j - 1 - i) = j by omega]
    · -- a new row
      have hcc : c = xs.length := by omega
      by_cases hie : i = xs.length
      · subst hie
        refine (Go.Proofs.Any2.slices_Insert_int_end_grow insLays (some ⟨g, 0, none⟩) xs.length c gx 0 1 1 (ints (natI xs)) [.int .i64 (x : Int)] w (by decide) hc (by omega) (by omega) hlen rfl (fun h => by cases h) (fun a ha j u hj => ?_) hvs h1v).mono ?_
        · injection ha with ha
          subst ha
          have : (⟨g, 0, none⟩ : Addr).add j = ⟨g, 0 + j, none⟩ := by unfold Addr.add; split <;> simp_all
          rw [this]
          exact hcs j u hj
        · rintro e w' ⟨rfl, rfl⟩
          simp only [insT]
          refine ⟨_, rfl, ?_, ⟨rfl, rfl, rfl, by show w.heap.size ≤ (w.heap.push _).size; simp, fun j hj _ => Below.heap_alloc w.drew _ j hj, fun g hg => Or.inr (by injection hg with hg; exact Nat.le_of_eq hg)⟩⟩
          have hge := grownCap_ge w (xs.length + 1) c 3
          refine own_of_blk (Blk.new w.drew 3 _) ?_ (by rw [hil]; exact hge) (grownCap_le_maxLen w _ _ _ (by simp only [maxLen]; omega)) (by rw [hil]) (fun j hj => ?_)
          · show Array.size (_ ++ _) = grownCap w (xs.length + 1) c 3
            rw [Array.size_append, zeroCells_size]
            simp [hlen]
            omega
          · rw [hil] at hj
            rw [insV_at (Nat.le_refl _), Array.getElem?_append_left (by simp [hlen]; omega), List.getElem?_toArray]
            by_cases h1 : j < xs.length
            · rw [if_pos h1, List.getElem?_append_left (by omega)]
            · obtain rfl : j = xs.length := by omega
              rw [if_neg h1, if_pos rfl, List.getElem?_append_right (by omega), hlen, Nat.sub_self]; rfl
      · have hilt : i < xs.length := by omega
        refine (Go.Proofs.Any2.slices_Insert_int_grow insLays g 0 xs.length c i gx 0 1 1 (ints (natI xs)) [.int .i64 (x : Int)] w hilt (by decide) hc (by omega) (by omega) hlen rfl hcs hvs oneI h1v).mono ?_
        rintro e w' ⟨rfl, rfl⟩
        simp only [insT]
        obtain ⟨arr, harr⟩ : ∃ arr, ((ints (natI xs)).take i).toArray ++ Builtin.zeroCells (Value.int .i64 0).cells (xs.length + 1 - i) ++ Builtin.zeroCells (Value.int .i64 0).cells (grownCap w (xs.length + 1) c 3 - (xs.length + 1)) = arr := ⟨_, rfl⟩
        have hge := grownCap_ge w (xs.length + 1) c 3
        have hasz : arr.size = grownCap w (xs.length + 1) c 3 := by
          rw [← harr, Array.size_append, Array.size_append, zeroCells_size, zeroCells_size]
          simp [hlen]
          omega
        have hat : ∀ j, j < i → arr[j]? = (ints (natI xs))[j]? := fun j hj => by
          rw [← harr, Array.getElem?_append_left (by rw [Array.size_append]; simp [hlen]; omega), Array.getElem?_append_left (by simp [hlen]; omega), List.getElem?_toArray, List.getElem?_take, if_pos hj]
        rw [harr]
        obtain ⟨cs1, p1, p2, p3, p4, p5⟩ := blk_setCells (g := w.heap.size) [Value.int .i64 (x : Int)] i (w.alloc (.cells arr 3)).drew arr (Blk.new w 3 arr).drew
        obtain ⟨cs', q1, q2, q3, q4, q5⟩ := blk_setCells ((ints (natI xs)).drop i) (i + 1) (((w.alloc (.cells arr 3)).drew).setCells w.heap.size i [Value.int .i64 (x : Int)]).drew cs1 p1.drew
        obtain ⟨s1, s2, s3, s4⟩ := setCells_rest (g := w.heap.size) [Value.int .i64 (x : Int)] i (w.alloc (.cells arr 3)).drew
        obtain ⟨r1, r2, r3, r4⟩ := setCells_rest (g := w.heap.size) ((ints (natI xs)).drop i) (i + 1) (((w.alloc (.cells arr 3)).drew).setCells w.heap.size i [Value.int .i64 (x : Int)]).drew
        have hasz' : (w.alloc (.cells arr 3)).drew.heap.size = w.heap.size + 1 := by show (w.heap.push _).size = _; simp
        refine ⟨_, rfl, own_of_blk q1 (by rw [q2, p2, hasz]) (by rw [hil]; exact hge) (grownCap_le_maxLen w _ _ _ (by simp only [maxLen]; omega)) (by rw [hil]) (fun j hj => ?_),
          ⟨r1.trans s1, r2.trans s2, r3.trans s3, by rw [r4]; show w.heap.size ≤ (World.setCells _ _ _ _).heap.size; rw [s4, hasz']; omega, fun j hj _ => (setCells_far _ _ _ j (by omega)).trans ((setCells_far _ _ _ j (by omega)).trans (Below.heap_alloc w _ j hj)), fun k hk => Or.inr (by injection hk with hk; exact Nat.le_of_eq hk)⟩⟩
        rw [hil] at hj
        rw [insV_at hi]
        by_cases h1 : j < i
        · rw [if_pos h1, q3 j (by omega), p3 j h1, hat j h1]
        · rw [if_neg h1]
          by_cases h2 : j = i
          · subst h2
            rw [if_pos rfl, q3 j (by omega)]
            have := p4 0 _ rfl (by omega)
            simpa using this
          · rw [if_neg h2]
            obtain ⟨u, hu⟩ : ∃ u, (ints (natI xs))[j - 1]? = some u := ⟨_, List.getElem?_eq_getElem (by omega)⟩
            have := q4 (j - 1 - i) u (by rw [List.getElem?_drop, show i + (j - 1 - i) = j - 1 by omega]; exact hu) (by omega)
            rw [hu, ← this, show i + 1 + (j - 1 - i) = j by omega]
end Dr
end Go.Proofs.YtbgakdpbglpfaaaGreatDoor
-- the text DrT
namespace Go.Proofs.YtbgakdpbglpfaaaGreatDoor
open Go.RowKit
namespace Dr
set_option linter.unusedSimpArgs false
section
variable {w : World} {V : Vals} {S : House}
theorem open_cases (V : Vals) (S : House) (d : ByteArray) : (∃ E : Int, E ≠ 0 ∧ openR V S d = .tuple #[.pointer none, .int .i64 E] ∧ (∀ s, doP S (.size d s) = (E, S)) ∧ (∀ o n, hasB o S.used = false → doP S (.order o d n) = (E, S)) ∧ ∀ o l, lk o S.out = some ⟨d, l⟩ → doP S (.back o) = (E, S)) ∨
    ∃ c, lk d S.chests = some c ∧ c.shut = false ∧ openR V S d = .tuple #[V (.chest d), .int .i64 0] := by
  cases hk : lk d S.chests with
  | none => exact Or.inl ⟨2, by decide, by rw [openR, hk], fun s => by rw [doP, hk], fun o n h => by rw [doP, h, hk]; rfl, fun o l h => by rw [doP, h]; simp [hk]⟩
  | some c =>
    cases hs : c.shut with
    | true => exact Or.inl ⟨20, by decide, by simp [openR, hk, hs], fun k => by simp [doP, hk, hs], fun o n h => by simp [doP, hk, hs, h], fun o l h => by simp [doP, h, hk, hs]⟩
    | false => exact Or.inr ⟨c, rfl, hs, by simp [openR, hk, hs]⟩
set_option maxRecDepth 100000 in
theorem sizing_no (H : HouseAt w V S) (d : ByteArray) (s : Nat) (E : Int) (hE : E ≠ 0) (hp : openR V S d = .tuple #[.pointer none, .int .i64 E]) (hd : doP S (.size d s) = (E, S)) :
    Calls Tryz.prog 215 #[.agg #[.string d, .int .i64 (s : Int)], V .house] w (DoPost V S w (doP S (.size d s))) := by
  have HPL := Lib.hid (fun (w' : World) (hb : Below w.heap.size w w') => open_any (H.callee hb) d)
  rw [hp] at HPL
  have HP : Hid (∀ e w', e = .returned (.tuple #[.nilFunc, .int .i64 E]) → Below w.heap.size w w' → DoPost V S w (doP S (.size d s)) e w') := fun e w' he hb => by
    rw [hd]
    exact .no H hE he hb
  obtain ⟨gh, hV, hB⟩ := H.hs
  rw [hV] at HPL ⊢
  generalize hPo : DoPost V S w (doP S (.size d s)) = Po at HP ⊢
  have hE2 : (E != 0) = true := by simpa using hE
  have hE3 : (E == 0) = false := by simpa using hE
  clear hPo hp hd hE hV hB H
  go_enter Tryz.func215, Tryz.ntmps215
  go_wp2_with (first
    | (with_reducible show wpList _ _ _ (⟨_, .box 208 _, _, _, _, _⟩ :: _) _ _
       refine wpList_box_cells rfl 208 _ rfl (.agg #[.string d, .int .i64 (s : Int)]) #[.string d, .int .i64 (s : Int)] rfl rfl ?_
       intro w1 g1 hG1 hgr1 hge1
       have hb1 := below_grown hgr1
       have d0 : w1.cell? ⟨g1, 0, none⟩ = some (.string d) := hG1.at_ 0 rfl)
    | (go_at_call 216; (with_reducible refine (HPL.out _ hb1).mono ?_); rintro e w2 ⟨rfl, rfl⟩))
  exact HP.out _ _ rfl hb1
set_option maxRecDepth 100000 in
theorem sizing_not (H : HouseAt w V S) (hS : Oks S) (d : ByteArray) (s : Nat) {c : Chest} (hk : lk d S.chests = some c) (hs : c.shut = false) (hor : openR V S d = .tuple #[V (.chest d), .int .i64 0]) (hno : c.sizes.contains s = true ∨ c.sizes.length = 5) :
    Calls Tryz.prog 215 #[.agg #[.string d, .int .i64 (s : Int)], V .house] w (DoPost V S w (doP S (.size d s))) := by
  have hco := hS d c hk
  obtain ⟨⟨g, hg, hB⟩, hsz, hst, hou⟩ := H.ch d c hk
  have HOP : Hid (∀ w', Below w.heap.size w w' → Calls Tryz.prog 216 #[V .house, .string d] w' fun e w2 => w2 = w' ∧ e = .returned (.tuple #[.pointer (some ⟨g, 0, none⟩), .int .i64 0])) := fun w' hb => by
    have h := open_any (H.callee hb) d
    rw [hor, hg] at h
    exact h
  have HSE : Hid (∀ w', Below w.heap.size w w' → Calls Tryz.prog 217 #[V (.sizes d), .int .i64 (s : Int)] w' fun e w2 => e = .returned (.tuple #[.int .i64 (pos s c.sizes : Nat), .bool (c.sizes.contains s)]) ∧ ∃ q, w2 = w'.drewN q) := fun w' hb =>
    search_any (OwnI.callee hsz hb) (by have := hco.five; omega) hco.srt s
  have HP : Hid (∀ e w' (R : Int), R ≠ 0 → doP S (.size d s) = (R, S) → e = .returned (.tuple #[.nilFunc, .int .i64 R]) → Below w.heap.size w w' → DoPost V S w (doP S (.size d s)) e w') := fun e w' R hR hd he hb => by
    rw [hd]
    exact .no H hR he hb
  obtain ⟨gh, hV, _⟩ := H.hs
  rw [hV] at HOP ⊢
  generalize hPo : DoPost V S w (doP S (.size d s)) = Po at HP ⊢
  obtain ⟨A, cc, hVs, hcc, hcm, _⟩ := ownN_form hsz
  obtain ⟨n, hn⟩ : ∃ n, c.sizes.length = n := ⟨_, rfl⟩
  rw [hn] at hVs hcc hno
  have hgl := hB.lt
  have e0 : w.cell? ⟨g, 0, none⟩ = some (.slice A n cc) := hB.at_ 0 (congrArg some hVs)
  rw [hVs] at HSE
  unfold maxLen at hcm
  cases hcs : c.sizes.contains s with
  | true =>
    have HF : Hid (∀ e w', e = .returned (.tuple #[.nilFunc, .int .i64 6]) → Below w.heap.size w w' → Po e w') := fun e w' he hb => HP.out e w' 6 (by decide) (by simp only [doP, hk, hs, hcs]; simp) he hb
    rw [hcs] at HSE
    clear HP hPo hV hg hB hsz hst hou hk hs hor hno hVs hcc hn hcs H hS hco
    go_enter Tryz.func215, Tryz.ntmps215
    go_wp2_with (first
      | (with_reducible show wpList _ _ _ (⟨_, .box 208 _, _, _, _, _⟩ :: _) _ _
         refine wpList_box_cells rfl 208 _ rfl (.agg #[.string d, .int .i64 (s : Int)]) #[.string d, .int .i64 (s : Int)] rfl rfl ?_
         intro w1 g1 hG1 hgr1 hge1
         have hb1 := below_grown hgr1
         have d0 : w1.cell? ⟨g1, 0, none⟩ = some (.string d) := hG1.at_ 0 rfl
         have d1 : w1.cell? ⟨g1, 1, none⟩ = some (.int .i64 (s : Int)) := hG1.at_ 1 rfl
         have d3 : w1.cell? ⟨g, 0, none⟩ = some (.slice A n cc) := (hb1.cell (p := ⟨g, 0, none⟩) hgl).trans e0)
      | (go_at_call 216; (with_reducible refine (HOP.out _ hb1).mono ?_); rintro e w2 ⟨rfl, rfl⟩))
    have HB1 := Lib.hid hb1
    clear hb1 hgr1 e0
    go_quiet ((go_at_call 217; exact Calls.quiet_of (HSE.out _ (below_drewN HB1.out _))))
    go_wp2_with (fail)
    exact HF.out _ _ rfl (below_drewN HB1.out _)
  | false =>
    have hn5 : n = 5 := by
      rcases hno with h | h
      · rw [h] at hcs; cases hcs
      · exact h
    have HF : Hid (∀ e w', e = .returned (.tuple #[.nilFunc, .int .i64 3]) → Below w.heap.size w w' → Po e w') := fun e w' he hb => HP.out e w' 3 (by decide) (by simp only [doP, hk, hs, hcs]; simp [hn, hn5]) he hb
    subst hn5
    rw [hcs] at HSE
    clear HP hPo hV hg hB hsz hst hou hk hs hor hno hVs hcc hn hcs H hS hco
    go_enter Tryz.func215, Tryz.ntmps215
    go_wp2_with (first
      | (with_reducible show wpList _ _ _ (⟨_, .box 208 _, _, _, _, _⟩ :: _) _ _
         refine wpList_box_cells rfl 208 _ rfl (.agg #[.string d, .int .i64 (s : Int)]) #[.string d, .int .i64 (s : Int)] rfl rfl ?_
         intro w1 g1 hG1 hgr1 hge1
         have hb1 := below_grown hgr1
         have d0 : w1.cell? ⟨g1, 0, none⟩ = some (.string d) := hG1.at_ 0 rfl
         have d1 : w1.cell? ⟨g1, 1, none⟩ = some (.int .i64 (s : Int)) := hG1.at_ 1 rfl
         have d3 : w1.cell? ⟨g, 0, none⟩ = some (.slice A 5 cc) := (hb1.cell (p := ⟨g, 0, none⟩) hgl).trans e0)
      | (go_at_call 216; (with_reducible refine (HOP.out _ hb1).mono ?_); rintro e w2 ⟨rfl, rfl⟩))
    have HB1 := Lib.hid hb1
    clear hb1 hgr1 e0
    go_quiet ((go_at_call 217; exact Calls.quiet_of (HSE.out _ (below_drewN HB1.out _))))
    go_wp2_with (fail)
    exact HF.out _ _ rfl (below_drewN HB1.out _)
end
end Dr
end Go.Proofs.YtbgakdpbglpfaaaGreatDoor
