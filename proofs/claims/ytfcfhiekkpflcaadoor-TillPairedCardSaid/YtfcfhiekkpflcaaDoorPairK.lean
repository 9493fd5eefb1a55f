/- A list of pairs that the call itself makes; a heap of ints whose top is cut off. -/
import Derived.Test.YtfcfhiekkpflcaaDoorTurns
import Derived.ArgAppend
namespace Go.Proofs.YtfcfhiekkpflcaaDoor
open Go.RowKit
/-- a list of pairs that the call itself makes -/
def pairsV (ps : List (Nat × Nat)) : List Value := ps.flatMap fun p => [.int .i64 (p.1 : Nat), .int .i64 (p.2 : Nat)]
def OwnP (w : World) (base : Nat) (v : Value) (ps : List (Nat × Nat)) : Prop := w.ownsRow base 52 2 v ps.length (pairsV ps)
theorem infoPair : (Tryd.prog.info? 52).map (fun i => (i.zero, i.size, i.bytes)) = some (some (.agg #[.int .i64 0, .int .i64 0]), 2, 16) := by kernel_rfl
theorem OwnP.nil (w : World) (base : Nat) : OwnP w base (.slice none 0 0) [] := World.ownsRow_nil _ _ _ _
theorem OwnP.keep {w w' : World} {base : Nat} {v : Value} {ps : List (Nat × Nat)} (h : OwnP w base v ps) (hk : ∀ g, v.ownBlock = some g → w'.heap[g]? = w.heap[g]?) : OwnP w' base v ps := by
  refine ⟨h.1, ?_⟩
  rcases h.2 with h0 | ⟨g, cap, cur, rfl, hb, hg, r⟩
  · exact .inl h0
  · exact .inr ⟨g, cap, cur, rfl, hb, (hk g rfl).trans hg, r⟩
theorem OwnP.ge {w : World} {base : Nat} {v : Value} {ps : List (Nat × Nat)} (h : OwnP w base v ps) {g : Nat} (hg : v.ownBlock = some g) : base ≤ g := (World.ownsRow.lt h g hg).1
theorem OwnP.lt {w : World} {base : Nat} {v : Value} {ps : List (Nat × Nat)} (h : OwnP w base v ps) {g : Nat} (hg : v.ownBlock = some g) : g < w.heap.size := (World.ownsRow.lt h g hg).2
theorem OwnP.callee {w w' : World} {base : Nat} {v : Value} {ps : List (Nat × Nat)} (h : OwnP w base v ps) (hb : Below w.heap.size w w') : OwnP w' base v ps := h.keep fun g hg => hb.block g (h.lt hg)
theorem OwnP.none_ {w w' : World} {base : Nat} {v : Value} {ps : List (Nat × Nat)} (h : OwnP w base v ps) (hb : w.grownBy w' none) : OwnP w' base v ps := h.keep fun g hg => hb.block g (h.lt hg) (by simp)
theorem OwnP.form {w : World} {base : Nat} {v : Value} {ps : List (Nat × Nat)} (h : OwnP w base v ps) : ∃ A c, v = .slice A ps.length c := by
  rcases h.2 with ⟨rfl, h0⟩ | ⟨g, cap, cur, rfl, _⟩
  · exact ⟨none, 0, by rw [h0]⟩
  · exact ⟨_, _, rfl⟩
theorem OwnP.rebase {w : World} {b b' : Nat} {v : Value} {xs : List (Nat × Nat)} (h : OwnP w b v xs) (hb : b' ≤ b) : OwnP w b' v xs := by
  refine ⟨h.1, ?_⟩
  rcases h.2 with h0 | ⟨g, cap, cur, rfl, hg, r⟩
  · exact .inl h0
  · exact .inr ⟨g, cap, cur, rfl, Nat.le_trans hb hg, r⟩
/-- what lies at the block of an own list of pairs -/
theorem OwnP.block {w : World} {base g : Nat} {v : Value} {ps : List (Nat × Nat)} (h : OwnP w base v ps) (hg : v.ownBlock = some g) : ∃ cs, w.heap[g]? = some (.cells cs 52 (0, 0)) := by
  rcases h.2 with ⟨rfl, _⟩ | ⟨g', cap, cur, rfl, _, hg', _⟩
  · simp [Value.ownBlock] at hg
  · obtain rfl : g' = g := by simpa [Value.ownBlock] using hg
    exact ⟨cur, hg'⟩
theorem wpList_pushP {w : World} {base : Nat} {v : Value} {ps : List (Nat × Nat)} {ops : Array Oper} {rest : List Oper} {o : Oper} {a : Act} {Q : Exit → Act → World → Prop} (hgd : o.guard = none) (s x : Operand)
    (ho : o.op = .call { callee := .builtin .append, args := #[s, x], argTypes := #[38, 38] }) (hs : a.eval s = v) (hown : OwnP w base v ps)
    (B c : Nat) (y z : Nat) (hx : a.eval x = .slice (some ⟨B, 0, none⟩) 1 c) (hB : Blk w B 52 #[.int .i64 (y : Nat), .int .i64 (z : Nat)]) (hlen : ps.length ≤ 1000000000) (hbase : base ≤ w.heap.size)
    (h : ∀ (v' : Value) (w' : World), OwnP w' base v' (ps ++ [(y, z)]) → w.grownBy w' v.ownBlock → wpList Tryd.prog ops Q rest (a.put o.dst v') w') : wpList Tryd.prog ops Q (o :: rest) a w := by
  obtain ⟨i0, hi0, hz0, hz1, hz2⟩ := info_parts infoPair
  refine wpList_append_lies w hgd s x 38 ho base 52 i0 (.agg #[.int .i64 0, .int .i64 0]) 2 16 Tryd.underlying38 hi0 hz0 hz1 hz2 rfl (by decide) v ps.length (pairsV ps) hs hown ⟨B, 0, none⟩ 1 c [.int .i64 (y : Nat), .int .i64 (z : Nat)] hx rfl
    (World.news_of_block hB) (by simp [Value.oneCell']) (by decide) (by simp only [maxLen]; omega) (by omega) hbase _ rfl ?_
  intro g cap w' hown' hgr hat hlt
  refine h _ w' ?_ hgr
  unfold OwnP
  have e : pairsV (ps ++ [(y, z)]) = pairsV ps ++ [.int .i64 (y : Nat), .int .i64 (z : Nat)] := by simp [pairsV]
  rw [e, List.length_append]
  exact hown'
/-- a heap of ints: an own list, or one whose top was cut off -/
def Stk (w : World) (base : Nat) (v : Value) (xs : List Int) : Prop :=
  OwnI w base v xs ∨ ∃ g cs, v = .slice (some ⟨g, 0, none⟩) xs.length xs.length ∧ base ≤ g ∧ w.heap[g]? = some (.cells cs 3 (0, 0)) ∧ ∀ j, j < xs.length → cs[j]? = some (.int .i64 (xs.getD j 0))
theorem Stk.keep {w w' : World} {base : Nat} {v : Value} {xs : List Int} (h : Stk w base v xs) (hk : ∀ g cs, w.heap[g]? = some (.cells cs 3 (0, 0)) → base ≤ g → w'.heap[g]? = w.heap[g]?) : Stk w' base v xs := by
  rcases h with h | ⟨g, cs, rfl, hb, hg, r⟩
  · refine Or.inl (h.keep fun g hg => ?_)
    have hge := h.ge hg
    rcases h.2 with ⟨rfl, _⟩ | ⟨g', cap, cur, rfl, _, hg', _⟩
    · simp [Value.ownBlock] at hg
    · obtain rfl : g' = g := by simpa [Value.ownBlock] using hg
      exact hk _ _ hg' hge
  · exact Or.inr ⟨g, cs, rfl, hb, (hk g cs hg hb).trans hg, r⟩
theorem Stk.len {w : World} {base : Nat} {v : Value} {xs : List Int} (h : Stk w base v xs) : ∃ A c, v = .slice A xs.length c := by
  rcases h with h | ⟨g, cs, rfl, _⟩
  · obtain ⟨A, c, e, _⟩ := h.reads
    exact ⟨A, c, e⟩
  · exact ⟨_, _, rfl⟩
theorem Stk.pop {w : World} {base : Nat} {v : Value} {xs : List Int} {y : Int} (h : Stk w base v (xs ++ [y])) : ∃ g c, v = .slice (some ⟨g, 0, none⟩) (xs.length + 1) c ∧ xs.length + 1 ≤ c ∧ w.cell? ⟨g, xs.length, none⟩ = some (.int .i64 y) ∧
    Stk w base (.slice (some ⟨g, 0, none⟩) xs.length xs.length) xs := by
  rcases h with h | ⟨g, cs, rfl, hb, hg, r⟩
  · rcases h.2 with ⟨_, h0⟩ | ⟨g, cap, cur, rfl, hb, hg, hc, hm, hsz, htk⟩
    · simp at h0
    · have hcur : ∀ j, j < (xs ++ [y]).length → cur[j]? = some (.int .i64 ((xs ++ [y]).getD j 0)) := by
        intro j hj
        have h2 := ints_get (xs ++ [y]) j hj
        rw [← htk, List.getElem?_take, if_pos (by omega)] at h2
        simpa using h2
      refine ⟨g, cap, by simp, by simpa using hc, ?_, Or.inr ⟨g, cur, rfl, hb, hg, fun j hj => ?_⟩⟩
      · rw [cell_of_row w g _ cur _ _ hg, hcur _ (by simp)]
        simp [List.getD]
      · rw [hcur j (by simp; omega)]
        simp [List.getD, List.getElem?_append_left hj]
  · refine ⟨g, xs.length + 1, by simp, Nat.le_refl _, ?_, Or.inr ⟨g, cs, rfl, hb, hg, fun j hj => ?_⟩⟩
    · rw [cell_of_row w g _ cs _ _ hg, r _ (by simp)]
      simp [List.getD]
    · rw [r j (by simp; omega)]
      simp [List.getD, List.getElem?_append_left hj]
theorem wpList_pushK {w : World} {base : Nat} {v : Value} {xs : List Int} {ops : Array Oper} {rest : List Oper} {o : Oper} {a : Act} {Q : Exit → Act → World → Prop} (hgd : o.guard = none) (s x : Operand)
    (ho : o.op = .call { callee := .builtin .append, args := #[s, x], argTypes := #[23, 23] }) (hs : a.eval s = v) (hown : Stk w base v xs)
    (B c : Nat) (y : Int) (hx : a.eval x = .slice (some ⟨B, 0, none⟩) 1 c) (hB : Blk w B 3 #[.int .i64 y]) (hlen : xs.length ≤ 1000000000) (hbase : base ≤ w.heap.size)
    (h : ∀ (v' : Value) (w' : World) (row : Option Nat), Stk w' base v' (xs ++ [y]) → w.grownBy w' row → (∀ g, row = some g → base ≤ g ∧ ∃ cs, w.heap[g]? = some (.cells cs 3 (0, 0))) → wpList Tryd.prog ops Q rest (a.put o.dst v') w') : wpList Tryd.prog ops Q (o :: rest) a w := by
  rcases hown with hown | ⟨g, cs, hv, hb, hg, hc⟩
  · refine wpList_push hgd s x ho hs hown B c y hx hB hlen hbase fun g cap w' h2 h3 _ _ => h _ w' _ (Or.inl (by simpa using h2)) h3 fun k hk => ⟨hown.ge hk, ?_⟩
    rcases hown.2 with ⟨rfl, _⟩ | ⟨g', cap, cur, rfl, _, hg', _⟩
    · simp [Value.ownBlock] at hk
    · obtain rfl : g' = k := by simpa [Value.ownBlock] using hk
      exact ⟨cur, hg'⟩
  · obtain ⟨i0, hi0, hz0, hz1, hz2⟩ := info_parts infoInt
    refine wpList_append_grows w hgd s x 23 ho 3 i0 (.int .i64 0) 1 8 Tryd.underlying23 hi0 hz0 hz1 hz2 rfl (by decide) (some ⟨g, 0, none⟩) xs.length xs.length (ints xs) (by rw [hs, hv]) (fun e => by cases e) (by rw [ints_length, Nat.mul_one]) ?_
      ⟨B, 0, none⟩ 1 c [.int .i64 y] hx rfl (World.news_of_block hB) (by simp [Value.oneCell']) (by omega) (by simp only [maxLen]; omega) (by omega) ?_
    · intro b e j u hu
      obtain rfl : (⟨g, 0, none⟩ : Addr) = b := by injection e
      have hj : j < xs.length := by
        have := (List.getElem?_eq_some_iff.1 hu).1
        rwa [ints_length] at this
      rw [ints_get xs j hj] at hu
      have e2 : (⟨g, 0, none⟩ : Addr).add j = ⟨g, j, none⟩ := by unfold Addr.add; split <;> simp_all
      rw [e2, cell_of_row w g j cs _ _ hg, hc j hj, hu]
    · intro v' w' h1 h2
      refine h v' w' none (Or.inl ?_) h2 (fun g hg => by cases hg)
      have h3 : OwnI w' w.heap.size v' (xs ++ [y]) := by
        unfold OwnI
        rw [ints_append, List.length_append]
        exact h1
      exact h3.rebase hbase
end Go.Proofs.YtfcfhiekkpflcaaDoor
