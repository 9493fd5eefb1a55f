/- The contracts of the clasps on positions that are good, with all that a call left alone. -/
import Derived.Test.YtjhcemhnnkcjaaaDoorSets
import Derived.Deep.OwnRows
import Derived.Deep.CutRange
namespace Go.Proofs.YtjhcemhnnkcjaaaDoor
open Go.RowKit
theorem wpList_make_ints {w : World} {ops : Array Oper} {rest : List Oper} {o : Oper} {a : Act} {Q : Exit → Act → World → Prop} (hg : o.guard = none) (x y : Operand) (hop : o.op = .makeSlice 22 x y) (n : Nat) (hx : a.eval x = .int .i64 (n : Int)) (hy : a.eval y = .int .i64 (n : Int)) (hn : n ≤ 1000000)
    (h : ∀ (w' : World) (g : Nat), Blk w' g 3 (intArr (List.replicate n 0)) → w.grownBy w' none → w.heap.size ≤ g → wpList Tryd.prog ops Q rest (a.put o.dst (.slice (some ⟨g, 0, none⟩) n n)) w') : wpList Tryd.prog ops Q (o :: rest) a w := by
  obtain ⟨i0, hi0, hz0, hz1, hz2⟩ := info_parts infoInt
  refine wpList_make_row w hg x y 22 hop 3 i0 (.int .i64 0) Tryd.underlying22 hi0 hz0 hz1 rfl .i64 .i64 n hx hy (by rw [hz2]; omega) (by omega) ?_
  rw [intArr_made]
  exact h _ _ (Blk.new _ _ _) (World.grownBy_alloc w _ none) (Nat.le_refl _)
section
variable {w0 w : World} {l : List (Option Addr × Nat × List Int)} {A B E : Option Addr} {n m k c d f p q r s : Nat} {xs ys zs : List Int} {er : Int}
theorem retL_len {w' : World} {e : Ending} (hr : RetL xs er w e w') (hl : xs.length = r) : ∃ A c, e = .returned (.tuple #[.slice A r c, .int .i64 er]) ∧ RInts w' w'.heap.size A r xs ∧ Below w.heap.size w w' := by
  obtain ⟨A, n, c, h1, h2, _, h3⟩ := hr
  obtain rfl : n = r := by rw [← hl, h2.len]
  exact ⟨A, c, h1, h2, h3⟩
/-- a position that is given, owned by whoever called -/
theorem o_given (r s : Nat) (hr : r ≤ 31) (hs : s < 4294967296) (w : World) : Calls Tryd.prog 40 #[.int .i64 r, .int .u32 s] w fun e w' => ∃ A c, e = .returned (.slice A r c) ∧ RInts w' w'.heap.size A r (bitS r s) ∧ Below w.heap.size w w' := given_any r s hr hs _ _ rfl rfl w
theorem o_number (h : Wk w0 w l) (h1 : (A, n, xs) ∈ l) (hn : n ≤ maxLen) (hc : chk xs = 0) (hp : numS xs = p) : Calls Tryd.prog 16 #[.slice A n c] w fun e w' => e = .returned (.tuple #[.int .i64 p, .int .i64 0]) ∧ Below w.heap.size w w' := by
  refine (Number_any A n c xs w (h.get h1) hn).mono ?_
  rintro e w' ⟨e1, e2⟩
  exact ⟨by rw [e1, hc, if_pos rfl, hp], e2⟩
theorem o_position (hr1 : 1 ≤ r) (hr2 : r ≤ 16) (hp : p < 2 ^ r) (w : World) : Calls Tryd.prog 18 #[.int .i64 r, .int .i64 p] w fun e w' => ∃ A c, e = .returned (.tuple #[.slice A r c, .int .i64 0]) ∧ RInts w' w'.heap.size A r (grayS r p) ∧ Below w.heap.size w w' := by
  have := pow16 hr2
  refine (Position_any r p (by omega) (by omega) w).mono ?_
  intro e w' hr
  have h0 := posE_in hr1 hr2 hp
  rw [posL, h0, if_pos rfl] at hr
  exact retL_len hr (by rw [grayS_length])
theorem o_moves (h : Wk w0 w l) (h1 : (A, n, xs) ∈ l) (hn : n ≤ maxLen) (hc : chk xs = 0) : Calls Tryd.prog 41 #[.slice A n c] w fun e w' => ∃ A n c, e = .returned (.tuple #[.slice A n c, .int .i64 0]) ∧ RInts w' w'.heap.size A n (mvK xs xs.length) ∧ n ≤ 65536 ∧ Below w.heap.size w w' := by
  refine (Moves_any A n c xs w (h.get h1) hn).mono ?_
  intro e w' hr
  rw [movesS, hc, if_pos rfl] at hr
  exact hr
theorem o_distance (h : Wk w0 w l) (h1 : (A, n, xs) ∈ l) (hn : n ≤ maxLen) (h2 : (B, m, ys) ∈ l) (hm : m ≤ maxLen) (hE : bothE xs ys = 0) (hp : numS xs = p) (hq : numS ys = q) : Calls Tryd.prog 23 #[.slice A n c, .slice B m d] w fun e w' => e = .returned (.tuple #[.int .i64 (distS p q : Nat), .int .i64 0]) ∧ Below w.heap.size w w' := by
  refine (Distance_any A B n m c d xs ys w (h.get h1) (h.get h2) hn hm).mono ?_
  rintro e w' ⟨e1, e2⟩
  exact ⟨by rw [e1, hE, if_pos rfl, hp, hq], e2⟩
theorem o_next (h : Wk w0 w l) (h1 : (A, n, xs) ∈ l) (hn : n ≤ maxLen) (h2 : (B, m, ys) ∈ l) (hm : m ≤ maxLen) (hE : bothE xs ys = 0) (hp : numS xs = p) (hq : numS ys = q) (hne : p ≠ q) : Calls Tryd.prog 25 #[.slice A n c, .slice B m d] w fun e w' => e = .returned (.tuple #[.int .i64 (nextS p q : Nat), .int .i64 0]) ∧ Below w.heap.size w w' := by
  refine (Next_any A B n m c d xs ys w (h.get h1) (h.get h2) hn hm h.2.2).mono ?_
  rintro e w' ⟨e1, e2⟩
  exact ⟨by rw [e1, nextE_ok hE (by rw [hp, hq]; exact hne), if_pos rfl, hp, hq], e2⟩
theorem o_next_lost (h : Wk w0 w l) (h1 : (A, n, xs) ∈ l) (hn : n ≤ maxLen) (h2 : (B, m, ys) ∈ l) (hm : m ≤ maxLen) (hE : bothE xs ys = 0) (hp : numS xs = numS ys) : Calls Tryd.prog 25 #[.slice A n c, .slice B m d] w fun e w' => e = .returned (.tuple #[.int .i64 0, .int .i64 12]) ∧ Below w.heap.size w w' := by
  refine (Next_any A B n m c d xs ys w (h.get h1) (h.get h2) hn hm h.2.2).mono ?_
  rintro e w' ⟨e1, e2⟩
  exact ⟨by rw [e1, nextE_same hE hp, if_neg (by decide)], e2⟩
theorem o_next_any (h : Wk w0 w l) (h1 : (A, n, xs) ∈ l) (hn : n ≤ maxLen) (h2 : (B, m, ys) ∈ l) (hm : m ≤ maxLen) (hE : bothE xs ys = 0) (hp : numS xs = p) (hq : numS ys = q) : Calls Tryd.prog 25 #[.slice A n c, .slice B m d] w fun e w' => ∃ y er, e = .returned (.tuple #[.int .i64 y, .int .i64 er]) ∧ ((er == 12) == (((distS p q : Nat) : Int) == 0)) = true ∧ Below w.heap.size w w' := by
  by_cases hpq : p = q
  · refine (o_next_lost h h1 hn h2 hm hE (by rw [hp, hq, hpq])).mono ?_
    rintro e w' ⟨e1, e2⟩
    exact ⟨_, _, e1, by subst hpq; simp [distS], e2⟩
  · refine (o_next h h1 hn h2 hm hE hp hq hpq).mono ?_
    rintro e w' ⟨e1, e2⟩
    refine ⟨_, _, e1, ?_, e2⟩
    rw [distS_ne hpq]; rfl
theorem o_way {D : Nat} (h : Wk w0 w l) (h1 : (A, n, xs) ∈ l) (hn : n ≤ maxLen) (h2 : (B, m, ys) ∈ l) (hm : m ≤ maxLen) (hE : bothE xs ys = 0) (hp : numS xs = p) (hq : numS ys = q) (hD : distS p q = D) (hd : D ≤ 1000) : Calls Tryd.prog 27 #[.slice A n c, .slice B m d] w fun e w' => ∃ A c, e = .returned (.tuple #[.slice A D c, .int .i64 0]) ∧ RInts w' w'.heap.size A D (wayN p q) ∧ Below w.heap.size w w' := by
  subst hD
  refine (Way_any A B n m c d xs ys w (h.get h1) (h.get h2) hn hm h.2.2).mono ?_
  intro e w' hr
  have h0 : wayE xs ys = 0 := by rw [wayE, if_neg (by simp [hE]), hp, hq, if_neg (by omega)]
  rw [wayL, h0, if_pos rfl, hp, hq] at hr
  exact retL_len hr (wayN_length _ _)
theorem o_way_many (h : Wk w0 w l) (h1 : (A, n, xs) ∈ l) (hn : n ≤ maxLen) (h2 : (B, m, ys) ∈ l) (hm : m ≤ maxLen) (hE : bothE xs ys = 0) (hp : numS xs = p) (hq : numS ys = q) (hd : 1000 < distS p q) : Calls Tryd.prog 27 #[.slice A n c, .slice B m d] w fun e w' => ∃ A c, e = .returned (.tuple #[.slice A 0 c, .int .i64 3]) ∧ Below w.heap.size w w' := by
  refine (Way_any A B n m c d xs ys w (h.get h1) (h.get h2) hn hm h.2.2).mono ?_
  intro e w' hr
  have h0 : wayE xs ys = 3 := by rw [wayE, if_neg (by simp [hE]), hp, hq, if_pos hd]
  rw [wayL, h0, if_neg (by decide)] at hr
  obtain ⟨A, c, e1, _, e3⟩ := retL_len hr rfl
  exact ⟨A, c, e1, e3⟩
theorem o_leads (h : Wk w0 w l) (h1 : (A, n, xs) ∈ l) (hn : n ≤ maxLen) (h2 : (B, m, ys) ∈ l) (hm : m ≤ maxLen) (h3 : (E, k, zs) ∈ l) (hk : k ≤ maxLen) (hL : leadsE xs ys zs = er) : Calls Tryd.prog 29 #[.slice A n c, .slice B m d, .slice E k f] w fun e w' => e = .returned (.int .i64 er) ∧ Below w.heap.size w w' := by
  refine (Leads_any A B E n m k c d f xs ys zs w (h.get h1) (h.get h2) (h.get h3) hn hm hk).mono ?_
  rintro e w' ⟨e1, e2⟩
  exact ⟨by rw [e1, hL], e2⟩
theorem o_times (h : Wk w0 w l) (h1 : (A, n, xs) ∈ l) (hn : n ≤ maxLen) (h2 : (B, m, ys) ∈ l) (hm : m ≤ maxLen) (hE : bothE xs ys = 0) (hp : numS xs = p) (hq : numS ys = q) : Calls Tryd.prog 31 #[.slice A n c, .slice B m d] w fun e w' => ∃ A c, e = .returned (.tuple #[.slice A n c, .int .i64 0]) ∧ RInts w' w'.heap.size A n (timesN n (min p q) (max p q)) ∧ Below w.heap.size w w' := by
  refine (Times_any A B n m c d xs ys w (h.get h1) (h.get h2) hn hm).mono ?_
  intro e w' hr
  rw [timesL, if_pos hE, hE, (h.get h1).len, hp, hq] at hr
  exact retL_len hr (timesN_length _ _ _)
theorem o_at (h : Wk w0 w l) (h1 : (A, n, xs) ∈ l) (hn : n ≤ maxLen) (h2 : (B, m, ys) ∈ l) (hm : m ≤ maxLen) (hE : bothE xs ys = 0) (hp : numS xs = p) (hq : numS ys = q) {t : Int} (ht : t = (k : Int)) (hk : k ≤ distS p q) : Calls Tryd.prog 33 #[.slice A n c, .slice B m d, .int .i64 t] w fun e w' => ∃ A c, e = .returned (.tuple #[.slice A n c, .int .i64 0]) ∧ RInts w' w'.heap.size A n (grayS n (posS p q k)) ∧ Below w.heap.size w w' := by
  subst ht
  refine (At_any A B n m c d xs ys k w (h.get h1) (h.get h2) hn hm).mono ?_
  intro e w' hr
  have h0 : atE xs ys k = 0 := by rw [atE, if_neg (by simp [hE]), hp, hq, if_neg (by omega)]
  have h1' : (if q < p then p - k else p + k) = posS p q k := by unfold posS; unfold distS at hk; split <;> split <;> omega
  rw [atL, h0, if_pos rfl, hp, hq, (h.get h1).len, Int.toNat_natCast, h1'] at hr
  exact retL_len hr (grayS_length _ _)
theorem o_at_bad (h : Wk w0 w l) (h1 : (A, n, xs) ∈ l) (hn : n ≤ maxLen) (h2 : (B, m, ys) ∈ l) (hm : m ≤ maxLen) (hE : bothE xs ys = 0) (hp : numS xs = p) (hq : numS ys = q) {t : Int} (hk : (distS p q : Int) < t) : Calls Tryd.prog 33 #[.slice A n c, .slice B m d, .int .i64 t] w fun e w' => ∃ A n c, e = .returned (.tuple #[.slice A n c, .int .i64 1]) ∧ Below w.heap.size w w' := by
  refine (At_any A B n m c d xs ys t w (h.get h1) (h.get h2) hn hm).mono ?_
  intro e w' hr
  have h0 : atE xs ys t = 1 := by rw [atE, if_neg (by simp [hE]), hp, hq, if_pos (Or.inr hk)]
  rw [h0] at hr
  obtain ⟨A, n, c, e1, _, _, e3⟩ := hr
  exact ⟨A, n, c, e1, e3⟩
theorem o_same (h : Wk w0 w l) (h1 : (A, n, xs) ∈ l) (hn : n ≤ maxLen) (h2 : (B, m, ys) ∈ l) (hm : m ≤ maxLen) (he : xs = ys) : Calls Tryd.prog 22 #[.slice A n c, .slice B m d] w fun e w' => e = .returned (.bool true) ∧ Below w.heap.size w w' := by
  subst he
  refine (same_any A B n m c d xs xs w _ (h.get h1) (h.get h2) hn hm).mono ?_
  rintro e w' ⟨rfl, q, rfl⟩
  exact ⟨by rw [beq_self_eq_true], below_drewN (Below.refl _ _) q⟩
theorem o_works (h : Wk w0 w l) : Calls Tryd.prog 15 #[] w fun e w' => e = .returned (.bool true) ∧ Below w.heap.size w w' := works_any w h.2.2
theorem Wk.also (h : Wk w0 w l) {w' : World} (hb : Below w.heap.size w w') (hr : RInts w' w'.heap.size A n xs) : Wk w0 w' ((A, n, xs) :: l) := (h.step hb).add hr
end
end Go.Proofs.YtjhcemhnnkcjaaaDoor
