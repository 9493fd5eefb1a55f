/- The texts DuJ to DuL, joined by joinlist.py: their statements say what each proves. -/
import Derived.Test.YtbgakdpbglpfaaaGreatDoorDuE
-- the text DuJ
namespace Go.Proofs.YtbgakdpbglpfaaaGreatDoor
namespace Dr
set_option linter.unusedSimpArgs false
theorem can_more {s m m' : Nat} (h : m ≤ m') (D : List (Nat × Nat)) : ∀ (C : List (Nat × Nat)) (x : Nat), canL (C ++ (s, m) :: D) x = true → canL (C ++ (s, m') :: D) x = true
  | [], x, hc => by
    simp only [List.nil_append, canL, List.any_eq_true, Bool.and_eq_true, decide_eq_true_eq, List.mem_range] at hc ⊢
    obtain ⟨t, h1, h2, h3⟩ := hc
    exact ⟨t, by omega, h2, h3⟩
  | (s0, m0) :: C, x, hc => by
    simp only [List.cons_append, canL, List.any_eq_true, Bool.and_eq_true, decide_eq_true_eq, List.mem_range] at hc ⊢
    obtain ⟨t, h1, h2, h3⟩ := hc
    exact ⟨t, h1, h2, can_more h D C _ h3⟩
theorem can_add {s m : Nat} (D : List (Nat × Nat)) : ∀ (C : List (Nat × Nat)) (x : Nat), canL (C ++ (s, m) :: D) x = true → canL (C ++ (s, m + 1) :: D) (x + s) = true
  | [], x, hc => by
    simp only [List.nil_append, canL, List.any_eq_true, Bool.and_eq_true, decide_eq_true_eq, List.mem_range] at hc ⊢
    obtain ⟨t, h1, h2, h3⟩ := hc
    refine ⟨t + 1, by omega, by rw [Nat.succ_mul]; omega, ?_⟩
    rw [Nat.succ_mul, Nat.add_sub_add_right]
    exact h3
  | (s0, m0) :: C, x, hc => by
    simp only [List.cons_append, canL, List.any_eq_true, Bool.and_eq_true, decide_eq_true_eq, List.mem_range] at hc ⊢
    obtain ⟨t, h1, h2, h3⟩ := hc
    refine ⟨t, h1, by omega, ?_⟩
    rw [show x + s - t * s0 = (x - t * s0) + s by omega]
    exact can_add D C _ h3
theorem zip_at (v : Nat) : ∀ (p : Nat) (ss ms : List Nat), p < ss.length → p < ms.length → ∃ A B s m, ss[p]? = some s ∧ ms[p]? = some m ∧ ss.zip ms = A ++ (s, m) :: B ∧ ss.zip (ms.set p v) = A ++ (s, v) :: B
  | 0, s :: ss, m :: ms, _, _ => ⟨[], ss.zip ms, s, m, rfl, rfl, rfl, rfl⟩
  | p + 1, s :: ss, m :: ms, h1, h2 => by
    obtain ⟨A, B, s', m', e1, e2, e3, e4⟩ := zip_at v p ss ms (by simpa using h1) (by simpa using h2)
    exact ⟨(s, m) :: A, B, s', m', by simpa using e1, by simpa using e2, by rw [List.zip_cons_cons, e3]; rfl, by rw [List.set_cons_succ, List.zip_cons_cons, e4]; rfl⟩
/-- packets of one size are bought: all that could be made up still can, and with one of them more, too -/
theorem could_buy {ss ms : List Nat} {p k s : Nat} (hs : ss[p]? = some s) (hl : ms.length = ss.length) (hk : 1 ≤ k) :
    (∀ x ∈ couldL ss ms, x ∈ couldL ss (ms.set p (ms.getD p 0 + k))) ∧ ∀ x ∈ couldL ss ms, x + s ≤ 1000 → x + s ∈ couldL ss (ms.set p (ms.getD p 0 + k)) := by
  have hp : p < ss.length := (List.getElem?_eq_some_iff.1 hs).1
  obtain ⟨A, B, s', m, e1, e2, e3, e4⟩ := zip_at (ms.getD p 0 + k) p ss ms hp (by omega)
  rw [hs] at e1
  injection e1 with e1
  subst e1
  have em : ms.getD p 0 = m := by rw [List.getD_eq_getElem?_getD, e2]; rfl
  rw [em] at e4 ⊢
  unfold couldL
  rw [e3, e4]
  simp only [List.mem_filter, List.mem_range, List.reverse_append, List.reverse_cons, List.append_assoc, List.singleton_append]
  refine ⟨fun x hx => ⟨hx.1, can_more (by omega) _ _ _ hx.2⟩, fun x hx h => ⟨by omega, ?_⟩⟩
  exact can_more (show m + 1 ≤ m + k by omega) _ _ _ (can_add _ _ _ hx.2)
end Dr
end Go.Proofs.YtbgakdpbglpfaaaGreatDoor
-- the text DuK
namespace Go.Proofs.YtbgakdpbglpfaaaGreatDoor
namespace Dr
set_option linter.unusedSimpArgs false
theorem set_stays {k d : ByteArray} {c : Chest} {l : List (ByteArray × Chest)} {c0 : Chest} (hd : lk d l = some c0) (hk : (lk k l).isSome = true) : (lk k (setA d c l)).isSome = true := by
  rw [lk_setA hd]
  by_cases e : k = d
  · rw [if_pos e]; rfl
  · rw [if_neg e]; exact hk
/-- a drawer that is there stays -/
theorem chest_stays (h : House) (D : Deed) {k : ByteArray} (hk : (lk k h.chests).isSome = true) : (lk k (doP h D).2.chests).isSome = true := by
  cases D with
  | found d =>
    simp only [doP]
    split
    · exact hk
    · rename_i h1
      split
      · exact hk
      · show (lk k (h.chests ++ [(d, newChest)])).isSome = true
        rw [lk_append (by simpa using h1)]
        by_cases e : k = d
        · rw [if_pos e]; rfl
        · rw [if_neg e]; exact hk
  | size d s =>
    simp only [doP]
    cases hd : lk d h.chests with
    | none => exact hk
    | some c =>
      simp only []
      repeat' split
      all_goals first
        | exact hk
        | exact set_stays hd hk
  | buy d s n =>
    simp only [doP]
    cases hd : lk d h.chests with
    | none => exact hk
    | some c =>
      simp only []
      repeat' split
      all_goals first
        | exact hk
        | exact set_stays hd hk
  | order o d n =>
    simp only [doP]
    split
    · exact hk
    · cases hd : lk d h.chests with
      | none => exact hk
      | some c =>
        simp only []
        repeat' split
        all_goals first
          | exact hk
          | exact set_stays hd hk
  | back o =>
    simp only [doP]
    cases ho : lk o h.out with
    | none => exact hk
    | some p =>
      simp only []
      cases hd : lk p.drawer h.chests with
      | none => exact hk
      | some c =>
        simp only []
        repeat' split
        all_goals first
          | exact hk
          | exact set_stays hd hk
  | moth d s =>
    simp only [doP]
    cases hd : lk d h.chests with
    | none => exact hk
    | some c =>
      simp only []
      repeat' split
      all_goals first
        | exact hk
        | exact set_stays hd hk
  | count d s n =>
    simp only [doP]
    cases hd : lk d h.chests with
    | none => exact hk
    | some c =>
      simp only []
      repeat' split
      all_goals exact hk
  | lock d b =>
    simp only [doP]
    cases hd : lk d h.chests with
    | none => exact hk
    | some c =>
      simp only []
      repeat' split
      all_goals first
        | exact hk
        | exact set_stays hd hk
theorem done_stays (b : Book) (x : ByteArray) {k : ByteArray} (hk : (lk k b.house.chests).isSome = true) : (lk k (b.done x).house.chests).isSome = true := by
  unfold Book.done
  by_cases h : b.would x = 0
  · rw [if_pos h]; exact chest_stays _ _ hk
  · rw [if_neg h]; exact hk
theorem done_lines (b : Book) (x : ByteArray) : (b.done x).lines.length ≤ b.lines.length + 1 := by
  by_cases h : b.would x = 0
  · rw [done_ok h, List.length_append]; exact Nat.le_refl _
  · rw [done_no h]; omega
theorem fold_done (ls : List ByteArray) (h : ∀ x ∈ ls, x ≠ undoB) : ∀ b : Book, (ls.foldl bookS b).lines.length ≤ b.lines.length + ls.length ∧ ∀ k, (lk k b.house.chests).isSome = true → (lk k (ls.foldl bookS b).house.chests).isSome = true := by
  induction ls with
  | nil => exact fun b => ⟨Nat.le_refl _, fun k hk => hk⟩
  | cons x ls ih =>
    intro b
    have hx : bookS b x = b.done x := by unfold bookS; rw [if_neg (h x List.mem_cons_self)]
    obtain ⟨h1, h2⟩ := ih (fun y hy => h y (List.mem_cons_of_mem _ hy)) (bookS b x)
    rw [List.foldl_cons, List.length_cons]
    have h3 := done_lines b x
    rw [hx] at h1 h2 ⊢
    exact ⟨by omega, fun k hk => h2 k (done_stays b x hk)⟩
theorem byts_append (a b : ByteArray) : byts (a ++ b) = byts a ++ byts b := by
  unfold byts
  rw [ByteArray.data_append, Array.toList_append]
theorem head_ne {a b : ByteArray} {c : UInt8} (h : (byts a).head? = some c) : (byts (a ++ b)).head? = some c := by
  rw [byts_append]
  cases hq : byts a with
  | nil => rw [hq] at h; cases h
  | cons x l => rw [hq] at h; exact h
theorem line_ne (q : Quad) : lineS false q ≠ undoB := by
  have hu : (byts undoB).head? = some 117 := rfl
  have key : ∀ {s : ByteArray} {c : UInt8}, (byts s).head? = some c → c ≠ 117 → s ≠ undoB := fun h hc e => by
    rw [e, hu] at h
    exact hc (Option.some.inj h).symm
  unfold lineS
  repeat' split
  all_goals first
    | exact key (c := 115) (head_ne (head_ne (head_ne rfl))) (by decide)
    | exact key (c := 98) (head_ne (head_ne (head_ne (head_ne (head_ne rfl))))) (by decide)
    | exact key (c := 111) (head_ne (head_ne (head_ne (head_ne (head_ne rfl))))) (by decide)
    | exact key (c := 98) (head_ne rfl) (by decide)
    | exact key (c := 109) (head_ne (head_ne (head_ne rfl))) (by decide)
    | exact key (c := 99) (head_ne (head_ne (head_ne (head_ne (head_ne rfl))))) (by decide)
    | exact key (c := 115) (head_ne rfl) (by decide)
    | exact key (c := 111) (head_ne rfl) (by decide)
    | exact key (c := 100) (head_ne rfl) (by decide)
    | (rename_i h; cases h)
/-- the book of a season without the word undo: few lines, both drawers -/
theorem season_book (qs : List Quad) : (bookP (seasonL false qs)).lines.length ≤ 30 ∧ ∀ d ∈ drawersL, (lk d (bookP (seasonL false qs)).house.chests).isSome = true := by
  have hf : (bookP firstL).lines.length = 6 ∧ ∀ d ∈ drawersL, (lk d (bookP firstL).house.chests).isSome = true := by decide +kernel
  have hl : ∀ x ∈ (qs.take 24).map (lineS false), x ≠ undoB := fun x hx => by
    obtain ⟨q, _, rfl⟩ := List.mem_map.1 hx
    exact line_ne q
  obtain ⟨h1, h2⟩ := fold_done _ hl (bookP firstL)
  have e : bookP (seasonL false qs) = ((qs.take 24).map (lineS false)).foldl bookS (bookP firstL) := by
    unfold bookP seasonL
    rw [List.foldl_append]
  rw [e]
  refine ⟨?_, fun d hd => h2 d (hf.2 d hd)⟩
  rw [List.length_map, List.length_take] at h1
  omega
end Dr
end Go.Proofs.YtbgakdpbglpfaaaGreatDoor
-- the text DuL
namespace Go.Proofs.YtbgakdpbglpfaaaGreatDoor
namespace Dr
set_option linter.unusedSimpArgs false
def buyB (d s : ByteArray) (k : Nat) : ByteArray := ⟨#[98, 117, 121, 32]⟩ ++ d ++ spB ++ s ++ spB ++ kB k
def openB (d : ByteArray) : ByteArray := ⟨#[111, 112, 101, 110, 32]⟩ ++ d
def sizeN (j : Nat) : Nat := [2, 3, 5, 7].getD j 0
theorem read_buy : ∀ i, i < 2 → ∀ j, j < 4 → ∀ k, k < 40 → readP (buyB (drawersL.getD i ⟨#[]⟩) (sizesL.getD j ⟨#[]⟩) (k + 1)) = (0, .buy (drawersL.getD i ⟨#[]⟩) (sizeN j) (k + 1)) := by decide +kernel
theorem read_open : ∀ i, i < 2 → readP (openB (drawersL.getD i ⟨#[]⟩)) = (0, .lock (drawersL.getD i ⟨#[]⟩) false) := by decide +kernel
theorem atoi_size : ∀ j, j < 4 → Lib.atoi (sizesL.getD j ⟨#[]⟩).data.toList = some ((sizeN j : Nat) : Int) := by decide +kernel
/-- a line is done, or not, by what its deed does -/
theorem would_deed {B : Book} {x : ByteArray} {D : Deed} (hr : readP x = (0, D)) (hl : B.lines.length ≠ 100) : B.would x = (doP B.house D).1 ∧ ((doP B.house D).1 = 0 → (B.done x).house = (doP B.house D).2) := by
  have h : B.would x = (doP B.house D).1 := by
    unfold Book.would
    simp only [hr]
    by_cases h0 : (doP B.house D).1 = 0
    · rw [if_neg (by decide), if_neg (by rw [h0]; decide), if_neg hl, h0]
    · rw [if_neg (by decide), if_pos h0]
  refine ⟨h, fun h0 => ?_⟩
  unfold Book.done
  rw [if_pos (by rw [h, h0]), hr]
/-- packets of a size are bought from a drawer: every case -/
theorem buy_cases {B : Book} {d x o : ByteArray} {s k : Nat} {c : Chest} (hx : readP x = (0, .buy d s k)) (ho : readP o = (0, .lock d false)) (hl : B.lines.length ≤ 30) (hc : lk d B.house.chests = some c) (hk : 1 ≤ k) (hok : ChestOk c) :
    (B.would x = 0 ∧ ∃ c', lk d (B.done x).house.chests = some c' ∧ (∀ y ∈ couldC c, y ∈ couldC c') ∧ ∀ y ∈ couldC c, y + s ≤ 1000 → y + s ∈ couldC c') ∨
    (B.would x = 20 ∧ B.done x = B ∧ B.would o = 0) ∨ (B.would x = 2 ∧ B.done x = B ∧ B.would o = 21 ∧ c.sizes.contains s = false) ∨ (B.would x = 15 ∧ B.done x = B ∧ B.would o = 21 ∧ c.sizes.contains s = true) := by
  obtain ⟨h1, h2⟩ := would_deed (B := B) hx (by omega)
  obtain ⟨h3, _⟩ := would_deed (B := B) ho (by omega)
  simp only [doP, hc] at h1 h2 h3
  by_cases hs : c.shut = true
  · rw [if_pos hs] at h1
    replace h1 : B.would x = 20 := h1
    rw [hs] at h3
    simp at h3
    exact Or.inr (Or.inl ⟨h1, done_no (by rw [h1]; decide), h3⟩)
  rw [if_neg hs] at h1 h2
  have hs' : c.shut = false := by simpa using hs
  rw [hs'] at h3
  simp at h3
  by_cases hm : (!c.sizes.contains s) = true
  · rw [if_pos hm] at h1
    replace h1 : B.would x = 2 := h1
    exact Or.inr (Or.inr (Or.inl ⟨h1, done_no (by rw [h1]; decide), h3, by simpa using hm⟩))
  rw [if_neg hm] at h1 h2
  have hm' : c.sizes.contains s = true := by simpa using hm
  by_cases hv : 40 < c.stock.getD (pos s c.sizes) 0 + k
  · rw [if_pos hv] at h1
    replace h1 : B.would x = 15 := h1
    exact Or.inr (Or.inr (Or.inr ⟨h1, done_no (by rw [h1]; decide), h3, hm'⟩))
  rw [if_neg hv] at h1 h2
  have hmem : s ∈ c.sizes := by simpa using hm'
  have hp := (pos_lt hok.srt hm').2
  have hne : c.sizes ≠ [] := fun e => by rw [e] at hmem; cases hmem
  obtain ⟨b1, b2⟩ := could_buy hp hok.len hk
  refine Or.inl ⟨h1, { c with stock := c.stock.set (pos s c.sizes) (c.stock.getD (pos s c.sizes) 0 + k), bought := c.bought + k * s }, ?_, ?_, ?_⟩
  · rw [h2 rfl]
    show lk d (setA d _ B.house.chests) = _
    rw [lk_setA hc, if_pos rfl]
  · unfold couldC
    rw [if_neg hne, if_neg hne]
    exact b1
  · unfold couldC
    rw [if_neg hne, if_neg hne]
    exact b2
end Dr
end Go.Proofs.YtbgakdpbglpfaaaGreatDoor
