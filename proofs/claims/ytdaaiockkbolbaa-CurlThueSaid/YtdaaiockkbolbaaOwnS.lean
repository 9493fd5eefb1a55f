/- A list of strings that the call itself makes by append: what it owns, and one more string behind it. -/
import Derived.Test.YtdaaiockkbolbaaRule
namespace Go.Proofs.Ytdaaiockkbolbaa
open Go.RowKit
theorem infoStr : (Try.prog.info? 9).map (fun i => (i.zero, i.size, i.bytes)) = some (some (.string ⟨#[]⟩), 1, 16) := by kernel_rfl
/-- the slice value v is the call's own row that holds xs -/
def OwnS (w : World) (base : Nat) (v : Value) (xs : List ByteArray) : Prop := w.ownsRow base 9 1 v xs.length (strsV xs)
theorem strsV_append (xs ys : List ByteArray) : strsV (xs ++ ys) = strsV xs ++ strsV ys := by simp [strsV]
theorem RStrs.of_own {w : World} {base n : Nat} {A : Option Addr} {c : Nat} {xs : List ByteArray} (h : w.ownsRow base 9 1 (.slice A n c) n (strsV xs)) : RStrs w w.heap.size A n xs := Reads.of_own h
section
variable {w w' : World} {base : Nat} {v : Value} {xs : List ByteArray}
theorem OwnS.nil (w : World) (base : Nat) : OwnS w base (.slice none 0 0) [] := World.ownsRow_nil _ _ _ _
theorem OwnS.keep (h : OwnS w base v xs) (hk : ∀ g, v.ownBlock = some g → w'.heap[g]? = w.heap[g]?) : OwnS w' base v xs := by
  refine ⟨h.1, ?_⟩
  rcases h.2 with h0 | ⟨g, cap, cur, rfl, hb, hg, r⟩
  · exact .inl h0
  · exact .inr ⟨g, cap, cur, rfl, hb, (hk g rfl).trans hg, r⟩
theorem OwnS.lt (h : OwnS w base v xs) {g : Nat} (hg : v.ownBlock = some g) : g < w.heap.size := (World.ownsRow.lt h g hg).2
theorem OwnS.ge (h : OwnS w base v xs) {g : Nat} (hg : v.ownBlock = some g) : base ≤ g := (World.ownsRow.lt h g hg).1
theorem OwnS.callee (h : OwnS w base v xs) (hb : Below w.heap.size w w') : OwnS w' base v xs := h.keep fun g hg => hb.block g (h.lt hg)
theorem OwnS.none_ (h : OwnS w base v xs) (hb : w.grownBy w' none) : OwnS w' base v xs := h.keep fun g hg => hb.block g (h.lt hg) (by simp)
theorem OwnS.some_ (h : OwnS w base v xs) {k : Nat} (hb : w.grownBy w' (some k)) (hne : v.ownBlock ≠ some k) : OwnS w' base v xs := h.keep fun g hg => hb.block g (h.lt hg) (fun e => hne (by rw [hg, e]))
theorem OwnS.set_ (h : OwnS w base v xs) {p : Addr} (hne : v.ownBlock ≠ some p.block) (u : Value) : OwnS (w.setCell p u) base v xs := h.keep fun g hg => Below.heap_setCell w p u g (fun e => hne (by rw [hg, e]))
theorem OwnS.drew (h : OwnS w base v xs) : OwnS w.drew base v xs := h
theorem OwnS.drewN (h : OwnS w base v xs) (n : Nat) : OwnS (w.drewN n) base v xs := h
theorem OwnS.reads (h : OwnS w base v xs) : ∃ A c, v = .slice A xs.length c ∧ RStrs w w.heap.size A xs.length xs := by
  rcases h.2 with ⟨rfl, h0⟩ | ⟨g, cap, cur, rfl, hb, hg, r⟩
  · have : xs = [] := List.eq_nil_of_length_eq_zero h0
    subst this
    exact ⟨none, 0, rfl, RStrs.none_⟩
  · exact ⟨_, _, rfl, RStrs.of_own h⟩
theorem OwnS.blk_ne {g : Nat} {t : TypeId} {cs : Array Value} (h : OwnS w base v xs) (hg : Blk w g t cs) (hne : 9 ≠ t) : v.ownBlock ≠ some g := own_blk_ne h hg hne
theorem wp_pushS {o : Oper} {a : Act} {K : Act → World → Prop} {Q : Exit → Act → World → Prop} (s x : Operand)
    (ho : o.op = .call { callee := .builtin .append, args := #[s, x], argTypes := #[36, 36] }) (hs : a.eval s = v) (hown : OwnS w base v xs)
    (B c : Nat) (y : ByteArray) (hx : a.eval x = .slice (some ⟨B, 0, none⟩) 1 c) (hB : Blk w B 9 #[.string y]) (hlen : xs.length ≤ 1000000000) (hbase : base ≤ w.heap.size)
    (h : ∀ (g cap : Nat) (w' : World), OwnS w' base (.slice (some ⟨g, 0, none⟩) (xs.length + 1) cap) (xs ++ [y]) → w.grownBy w' v.ownBlock → (v.ownBlock = some g ∨ g = w.heap.size) → g < w'.heap.size → K (a.put o.dst (.slice (some ⟨g, 0, none⟩) (xs.length + 1) cap)) w') : o.wp Try.prog a w K Q := by
  obtain ⟨i0, hi0, hz0, hz1, hz2⟩ := info_parts infoStr
  refine wp_append_lies w s x 36 ho base 9 i0 (.string ⟨#[]⟩) 1 16 Try.underlying36 hi0 hz0 hz1 hz2 rfl (by decide) v xs.length (strsV xs) hs hown ⟨B, 0, none⟩ 1 c [.string y] hx rfl
    (World.news_of_block hB) (by simp [Value.oneCell']) (by decide) (by simp only [maxLen]; omega) (by omega) hbase _ rfl ?_
  intro g cap w' hown' hgr hat hlt
  refine h g cap w' ?_ hgr hat hlt
  unfold OwnS
  rw [strsV_append, List.length_append]
  exact hown'
theorem wpList_pushS {ops : Array Oper} {rest : List Oper} {o : Oper} {a : Act} {Q : Exit → Act → World → Prop} (hgd : o.guard = none) (s x : Operand)
    (ho : o.op = .call { callee := .builtin .append, args := #[s, x], argTypes := #[36, 36] }) (hs : a.eval s = v) (hown : OwnS w base v xs)
    (B c : Nat) (y : ByteArray) (hx : a.eval x = .slice (some ⟨B, 0, none⟩) 1 c) (hB : Blk w B 9 #[.string y]) (hlen : xs.length ≤ 1000000000) (hbase : base ≤ w.heap.size)
    (h : ∀ (g cap : Nat) (w' : World), OwnS w' base (.slice (some ⟨g, 0, none⟩) (xs.length + 1) cap) (xs ++ [y]) → w.grownBy w' v.ownBlock → (v.ownBlock = some g ∨ g = w.heap.size) → g < w'.heap.size → wpList Try.prog ops Q rest (a.put o.dst (.slice (some ⟨g, 0, none⟩) (xs.length + 1) cap)) w') : wpList Try.prog ops Q (o :: rest) a w :=
  wpList_plain hgd fun _ hK => wp_pushS s x ho hs hown B c y hx hB hlen hbase fun g cap w' h2 h3 h4 h5 => hK _ _ (h g cap w' h2 h3 h4 h5)
theorem step_pushS {ops : Array Oper} {o : Oper} {a : Act} {K : Act → World → Prop} {Q : Exit → Act → World → Prop} {E : Prop} (hgd : o.guard = none) (s x : Operand)
    (ho : o.op = .call { callee := .builtin .append, args := #[s, x], argTypes := #[36, 36] }) (hs : a.eval s = v) (hown : OwnS w base v xs)
    (B c : Nat) (y : ByteArray) (hx : a.eval x = .slice (some ⟨B, 0, none⟩) 1 c) (hB : Blk w B 9 #[.string y]) (hlen : xs.length ≤ 1000000000) (hbase : base ≤ w.heap.size)
    (h : ∀ (g cap : Nat) (w' : World), OwnS w' base (.slice (some ⟨g, 0, none⟩) (xs.length + 1) cap) (xs ++ [y]) → w.grownBy w' v.ownBlock → (v.ownBlock = some g ∨ g = w.heap.size) → g < w'.heap.size → K (a.put o.dst (.slice (some ⟨g, 0, none⟩) (xs.length + 1) cap)) w') :
    if Region.wanted o (yielded ops a.tmps) = true then Oper.wp Try.prog o a w K Q else E := by
  have hw : Region.wanted o (yielded ops a.tmps) = true := by simp [Region.wanted, hgd]
  rw [if_pos hw]
  exact wp_pushS s x ho hs hown B c y hx hB hlen hbase h
end
end Go.Proofs.Ytdaaiockkbolbaa
