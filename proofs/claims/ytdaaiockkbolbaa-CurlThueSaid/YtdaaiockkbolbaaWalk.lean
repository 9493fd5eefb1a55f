/- walk, at every function value that obeys some rules. -/
import Derived.Test.YtdaaiockkbolbaaRow
import Derived.Test.YtdaaiockkbolbaaBegun
namespace Go.Proofs.Ytdaaiockkbolbaa
open Go.RowKit
theorem Fr.more {S T : Nat → Prop} {w w1 w2 : World} (h : Fr S w w1) (h2 : Fr T w1 w2) (hT : ∀ i, i < w.heap.size → T i → S i) : Fr S w w2 :=
  ⟨h2.os.trans h.os, h2.tape.trans h.tape, h2.output.trans h.output, Nat.le_trans h.size h2.size, fun i hi hS => (h2.block i (Nat.lt_of_lt_of_le hi h.size) fun ht => hS (hT i hi ht)).trans (h.block i hi hS)⟩
theorem Fr.same {S : Nat → Prop} {w w1 : World} (h : Fr S w w1) {v : Value} {og : Option Nat} {l : Word} (hr : Row8 w v og l) (hS : ∀ g, og = some g → ¬ S g) : Row8 w1 v og l := hr.same fun g hg => h.block g (hr.lt hg) (hS g hg)
/-- up to the test of a round -/
theorem round_near {O : Nat → Prop} {w wr wn w2 w3 : World} {og : Option Nat} {x : Word} {v : Value} {o : Obj} (hr : Row8 w v og x) (hsz : w.heap.size < wr.heap.size) (hF1 : Fr (fun i => O i ∨ og = some i) w wr) (hn : Fr (fun i => i = w.heap.size) wr wn)
    (hF2 : Fr (fun i => og = some i) (wn.alloc o) w2) (hrx : Row8 w2 v og x) (hb3 : Below w2.heap.size w2 w3) :
    Fr (fun i => O i ∨ og = some i) w w3 ∧ w3.heap[w.heap.size]? = wn.heap[w.heap.size]? ∧ Row8 w3 v og x ∧ wn.heap.size < w3.heap.size ∧ ∀ i, i < wn.heap.size → og ≠ some i → w3.heap[i]? = wn.heap[i]? := by
  have ha := (Below.refl wn.heap.size wn).alloc (Nat.le_refl _) o
  have has : (wn.alloc o).heap.size = wn.heap.size + 1 := by simp
  have h23 : Fr (fun i => og = some i) wn w3 := ⟨(hb3.os.trans hF2.os).trans ha.os, (hb3.tape.trans hF2.tape).trans ha.tape, (hb3.output.trans hF2.output).trans ha.output,
    Nat.le_trans (Nat.le_trans ha.size hF2.size) hb3.size, fun i hi hS => ((hb3.block i (by have := hF2.size; omega)).trans (hF2.block i (by omega) hS)).trans (ha.block i hi)⟩
  have hnw : ∀ g, og = some g → g < w.heap.size := fun g hg => hr.lt hg
  refine ⟨(hF1.more hn (fun i hi e => absurd e (by omega))).more h23 (fun i _ e => Or.inr e), h23.block _ (by have := hn.size; omega) (fun e => by have := hnw _ e; omega), hrx.same fun g hg => hb3.block g (hrx.lt hg), by have := hF2.size; have := hb3.size; omega, fun i hi hS => h23.block i hi hS⟩
/-- behind the call of a round -/
theorem round_far {O O1 : Nat → Prop} {w w3 w4 : World} {og : Option Nat} {x : Word} {v v2 : Value} {g2 N : Nat} {b : UInt8} (hr : Row8 w v og x) (f1 : Fr (fun i => O i ∨ og = some i) w w3) (f3 : Row8 w3 v og x) (hsz : w.heap.size < w3.heap.size)
    (hpre : og = some g2 → ∀ w'', Row8 w'' v2 (some g2) (x ++ [b]) → Row8 w'' v og x) (hg2 : og = some g2 ∨ N ≤ g2) (hN : w.heap.size < N) (hlt0 : ∀ i, O i → i < w.heap.size) (ho : ∀ g, og = some g → ¬ O g) (hO1 : ∀ i, O1 i → O i ∨ w.heap.size < i)
    (hF4 : Fr (fun i => O1 i ∨ some g2 = some i) w3 w4) (hr4 : Row8 w4 v2 (some g2) (x ++ [b])) : Fr (fun i => O i ∨ og = some i) w w4 ∧ w4.heap[w.heap.size]? = w3.heap[w.heap.size]? ∧ Row8 w4 v og x := by
  have hnw : ∀ g, og = some g → g < w.heap.size := fun g hg => hr.lt hg
  refine ⟨f1.more hF4 fun i hi h => ?_, hF4.block _ hsz fun h => ?_, ?_⟩
  · rcases h with h | h
    · rcases hO1 i h with h | h
      · exact Or.inl h
      · omega
    · have hgi : g2 = i := by simpa using h
      rcases hg2 with h2 | h2
      · exact Or.inr (by rw [h2, hgi])
      · omega
  · rcases h with h | h
    · rcases hO1 _ h with h | h
      · have := hlt0 _ h; omega
      · omega
    · have hgi : g2 = w.heap.size := by simpa using h
      rcases hg2 with h2 | h2
      · have := hnw _ h2; omega
      · omega
  · rcases hg2 with h2 | h2
    · exact hpre h2 w4 hr4
    · refine hF4.same f3 fun g hg h => ?_
      have := hnw g hg
      rcases h with h | h
      · rcases hO1 _ h with h | h
        · exact ho g hg h
        · omega
      · have hgi : g2 = g := by simpa using h
        omega
section
variable {σ : Type}
/-- through the letters: k of them, from the letter c on -/
def runL (f : σ → Word → Bool × σ) (x : Word) : Nat → Nat → σ → Bool × σ
  | 0, _, s => (true, s)
  | k + 1, c, s => if endsS (x ++ [c.toUInt8]) = 0 then (if (f s (x ++ [c.toUInt8])).1 then runL f x k (c + 1) (f s (x ++ [c.toUInt8])).2 else f s (x ++ [c.toUInt8])) else runL f x k (c + 1) s
/-- what walk reckons: m letters more -/
def runW (step : σ → Word → Bool × σ) (n : Nat) : Nat → σ → Word → Bool × σ
  | 0, s, x => step s x
  | m + 1, s, x => runL (runW step n m) x n 97 s
/-- the rules of a function value: what it holds (I, in the blocks O), and what a call does -/
structure Each (k : FuncId) (cap : Array Value) (n L C : Nat) (step : σ → Word → Bool × σ) where
  I : (Nat → Prop) → σ → World → Prop
  cost : σ → Nat
  cost_step : ∀ s x, cost (step s x).2 ≤ cost s + 1
  enters : ∀ args w, (callFunc k args).run Try.prog w = .ok (.enter k args) w
  lt : ∀ O s w i, I O s w → O i → i < w.heap.size
  keep : ∀ O s w w', I O s w → w.heap.size ≤ w'.heap.size → (∀ i, O i → w'.heap[i]? = w.heap[i]?) → I O s w'
  call : ∀ O s w v og x, I O s w → Row8 w v og x → x.length = L → lettersS x n = true → (∀ g, og = some g → ¬ O g) → cost s < C → Calls Try.prog k (#[v] ++ cap) w fun e w' => ∃ O', e = .returned (.bool (step s x).1) ∧ I O' (step s x).2 w' ∧ Fr O w w' ∧ ∀ i, O' i → O i ∨ w.heap.size ≤ i
theorem letters_snoc {x : Word} {n : Nat} {c : UInt8} (h : lettersS x n = true) (h1 : 97 ≤ c.toNat) (h2 : c.toNat ≤ 96 + n) : lettersS (x ++ [c]) n = true := by
  rw [lettersS, List.all_append, Bool.and_eq_true]
  refine ⟨h, ?_⟩
  simp
  omega
theorem cost_runL {f : σ → Word → Bool × σ} {cost : σ → Nat} {K : Nat} (hf : ∀ s x, cost (f s x).2 ≤ cost s + K) (x : Word) (k : Nat) : ∀ c s, cost (runL f x k c s).2 ≤ cost s + k * K := by
  induction k with
  | zero => intro c s; simp [runL]
  | succ k ih =>
    intro c s
    rw [Nat.succ_mul]
    simp only [runL]
    split
    · split
      · have h1 := hf s (x ++ [c.toUInt8])
        have h2 := ih (c + 1) (f s (x ++ [c.toUInt8])).2
        omega
      · have h1 := hf s (x ++ [c.toUInt8])
        omega
    · have h2 := ih (c + 1) s
      omega
theorem cost_runW {step : σ → Word → Bool × σ} {n : Nat} {cost : σ → Nat} (hn : n ≤ 4) (hf : ∀ s x, cost (step s x).2 ≤ cost s + 1) (m : Nat) : ∀ s x, cost (runW step n m s x).2 ≤ cost s + 4 ^ m := by
  induction m with
  | zero => intro s x; simpa [runW] using hf s x
  | succ m ih =>
    intro s x
    have h1 := cost_runL (K := 4 ^ m) ih x n 97 s
    have h2 : n * 4 ^ m ≤ 4 * 4 ^ m := Nat.mul_le_mul_right _ hn
    simp only [runW]
    rw [Nat.pow_succ]
    omega
variable {k : FuncId} {cap : Array Value} {n L C : Nat} {step : σ → Word → Bool × σ}
set_option maxRecDepth 100000 in
set_option maxHeartbeats 4000000 in
theorem walk_zero (E : Each k cap n L C step) (O : Nat → Prop) (s : σ) (w : World) (v : Value) (og : Option Nat) (x : Word) (hL : x.length = L) (hl : lettersS x n = true) (hI : E.I O s w) (hr : Row8 w v og x) (ho : ∀ g, og = some g → ¬ O g) (hC : E.cost s < C) :
    Calls Try.prog 55 #[v, .int .i64 n, .int .i64 0, .func (.func k) #[] cap] w fun e w' => ∃ O', e = .returned (.bool (step s x).1) ∧ E.I O' (step s x).2 w' ∧ Fr O w w' ∧ ∀ i, O' i → O i ∨ w.heap.size ≤ i := by
  have eg := E.enters
  go_enter Try.func55, Try.ntmps55
  go_wp2_with (first
    | (with_reducible show Calls _ _ _ _ _; refine (E.call O s _ v og x hI hr hL hl ho hC).mono ?_; rintro e w1 ⟨O1, rfl, hI1, hF1, hO1⟩))
  go_ret
  exact ⟨O1, rfl, hI1, hF1, hO1⟩
/-- the letters that are gone through -/
theorem abc_at {n p : Nat} (hn : n ≤ 4) (hp : p < n) : ∃ h : p < (abcd.extract 0 n).size, (abcd.extract 0 n)[p]'h = (97 + p).toUInt8 := by
  have hsz : (abcd.extract 0 n).size = n := by rw [ByteArray.size_extract]; show min n 4 - 0 = n; omega
  refine ⟨by omega, ?_⟩
  rw [ByteArray.getElem_extract]
  have h4 : p < 4 := by omega
  match p, h4 with
  | 0, _ => rfl
  | 1, _ => rfl
  | 2, _ => rfl
  | 3, _ => rfl
set_option maxRecDepth 100000 in
set_option maxHeartbeats 4000000 in
theorem walk_succ (E : Each k cap n L C step) (m M K : Nat) (hM : m + 1 = M) (hn : n ≤ 4) (hK : ∀ s x, E.cost (runW step n m s x).2 ≤ E.cost s + K)
    (ih : ∀ (O : Nat → Prop) (s : σ) (w : World) (v : Value) (og : Option Nat) (x : Word), E.cost s + K ≤ C → x.length + m = L → lettersS x n = true → E.I O s w → Row8 w v og x → (∀ g, og = some g → ¬ O g) →
      Calls Try.prog 55 #[v, .int .i64 n, .int .i64 m, .func (.func k) #[] cap] w fun e w' => ∃ O', e = .returned (.bool (runW step n m s x).1) ∧ E.I O' (runW step n m s x).2 w' ∧ Row8 w' v og x ∧ Fr (fun i => O i ∨ og = some i) w w' ∧ ∀ i, O' i → O i ∨ w.heap.size ≤ i)
    (O : Nat → Prop) (s : σ) (w : World) (v : Value) (og : Option Nat) (x : Word) (hC : E.cost s + n * K ≤ C) (hL : x.length + M = L) (hL7 : L ≤ 700) (hl : lettersS x n = true) (hI : E.I O s w) (hr : Row8 w v og x) (ho : ∀ g, og = some g → ¬ O g) :
    Calls Try.prog 55 #[v, .int .i64 n, .int .i64 M, .func (.func k) #[] cap] w fun e w' => ∃ O', e = .returned (.bool (runW step n M s x).1) ∧ E.I O' (runW step n M s x).2 w' ∧ Row8 w' v og x ∧ Fr (fun i => O i ∨ og = some i) w w' ∧ ∀ i, O' i → O i ∨ w.heap.size ≤ i := by
  have hM0 : ((M : Int) == 0) = false := by simp; omega
  have hM1 : (M : Int) - 1 = m := by omega
  have hn4 : (n : Int) ≤ 4 := by omega
  have hM7 : M ≤ 700 := by omega
  obtain ⟨R, hR⟩ : ∃ R, runW step n M s x = R := ⟨_, rfl⟩
  rw [hR]
  have hRH := Lib.hid (show runL (runW step n m) x n 97 s = R by rw [← hR, ← hM]; rfl)
  clear hR
  have hlt0 : ∀ i, O i → i < w.heap.size := fun i => E.lt O s w i hI
  clear hM
  go_enter Try.func55, Try.ntmps55
  go_wp2_with (fail)
  go_loopw [] (fun wr => ∃ pos O1 s1, pos ≤ n ∧ E.I O1 s1 wr ∧ (∀ i, O1 i → O i ∨ w.heap.size < i) ∧ Row8 wr v og x ∧ wr.heap[w.heap.size]? = some (.stringIter (abcd.extract 0 n) pos) ∧ Fr (fun i => O i ∨ og = some i) w wr ∧ Hid (runL (runW step n m) x (n - pos) (97 + pos) s1 = R) ∧ Hid (E.cost s1 + (n - pos) * K ≤ C)) (fun wr => n - wr.iterPos w.heap.size)
  case atStart =>
    have hb0 := (Below.refl w.heap.size w).alloc (Nat.le_refl _) (.stringIter (abcd.extract 0 n) 0)
    refine ⟨0, O, s, by omega, E.keep O s w _ hI hb0.size (fun i hi => hb0.block i (hlt0 i hi)), fun i hi => Or.inl hi, hr.same (fun g hg => hb0.block g (hr.lt hg)), by first | exact World.iter_heap w _ 0 | simp, ⟨hb0.os, hb0.tape, hb0.output, hb0.size, fun i hi _ => hb0.block i hi⟩, hRH, Lib.hid hC⟩
  case round =>
    obtain ⟨pos, O1, s1, hpos, hI1, hO1, hr1, hit, hF1, hH, hcost⟩ := hrel
    have hitsz : w.heap.size < wr.heap.size := by
      rcases Nat.lt_or_ge w.heap.size wr.heap.size with h | h
      · exact h
      · rw [Array.getElem?_eq_none h] at hit; cases hit
    by_cases hp : pos < n
    · have hcs := Lib.hid (show E.cost s1 + K ≤ C ∧ ∀ y, E.cost y ≤ E.cost s1 + K → E.cost y + (n - (pos + 1)) * K ≤ C from by
        have h1 : (n - pos) * K = (n - (pos + 1)) * K + K := by rw [show n - pos = (n - (pos + 1)) + 1 by omega, Nat.succ_mul]
        have h2 := hcost.out
        exact ⟨by omega, fun y hy => by omega⟩)
      obtain ⟨hps, hpe⟩ := abc_at hn hp
      obtain ⟨b, hb⟩ : ∃ b, (abcd.extract 0 n)[pos]'hps = b := ⟨_, rfl⟩
      rw [hb] at hpe
      have hbn := Lib.hid (show b.toNat = 97 + pos by rw [hpe, Nat.toUInt8, UInt8.toNat_ofNat']; omega)
      have hb97 : 97 ≤ b.toNat := by have := hbn.out; omega
      have hb96 : b.toNat ≤ 96 + n := by have := hbn.out; omega
      have hb128 : b.toNat < 128 := by omega
      have hnx : ∀ ty, (Instr.next (.pointer (some ⟨w.heap.size, 0, none⟩)) true ty).run Try.prog wr = .ok (.tuple #[.bool true, .int .i64 pos, .int .i32 b.toNat]) (wr.iterAt w.heap.size (abcd.extract 0 n) (pos + 1)) := fun ty => by
        rw [Lib.run_next_ascii_at wr w.heap.size _ pos ty hit hps (by rw [hb]; exact hb128), hb]
      clear hb
      replace hpe := Lib.hid hpe
      have hit2 := Lib.iterAt_heap wr w.heap.size (abcd.extract 0 n) pos (pos + 1) hit
      have hfn : Fr (fun i => i = w.heap.size) wr (wr.iterAt w.heap.size (abcd.extract 0 n) (pos + 1)) := ⟨rfl, rfl, rfl, by rw [Lib.iterAt_size]; exact Nat.le_refl _, fun i _ hi => Lib.iterAt_other wr w.heap.size i _ (pos + 1) hi⟩
      generalize wr.iterAt w.heap.size (abcd.extract 0 n) (pos + 1) = wn at hnx hit2 hfn
      have hgw : ∀ g, og = some g → g < w.heap.size := fun g hg => hr.lt hg
      have hO1i : ¬ O1 w.heap.size := fun h => by
        rcases hO1 _ h with h | h
        · have := hlt0 _ h; omega
        · omega
      have hIn := E.keep O1 s1 wr wn hI1 hfn.size (fun i hi => hfn.block i (E.lt _ _ _ _ hI1 hi) (fun e => hO1i (e ▸ hi)))
      have hrn := hfn.same hr1 (fun g hg e => by have := hgw g hg; omega)
      have hra := hrn.same (w' := wn.alloc (.cells #[.int .u8 (b.toNat : Int)] 5)) (fun g hg => ((Below.refl wn.heap.size wn).alloc (Nat.le_refl _) _).block g (hrn.lt hg))
      have hcell : (wn.alloc (.cells #[.int .u8 (b.toNat : Int)] 5)).cell? ⟨wn.heap.size, 0, none⟩ = some (.int .u8 (b.toNat : Int)) := cell_of_row _ wn.heap.size 0 _ 5 (0, 0) (Blk.new wn _ _)
      have hlen : x.length ≤ 1000000 := by omega
      have hos : (bts ⟨(x ++ [b]).toArray⟩) = x ++ [b] := rfl
      have hO1o : ∀ g, og = some g → ¬ O1 g := fun g hg h => by
        rcases hO1 _ h with h | h
        · exact ho g hg h
        · have := hgw g hg; omega
      by_cases he : endsS (x ++ [b]) = 0
      · obtain ⟨⟨q, s4⟩, hT⟩ : ∃ T, runW step n m s1 (x ++ [b]) = T := ⟨_, rfl⟩
        have hTH := Lib.hid hT
        have hc4 := Lib.hid (show E.cost s4 ≤ E.cost s1 + K by have h := hK s1 (x ++ [b]); rw [hT] at h; exact h)
        have heH := Lib.hid he
        have hRr : runL (runW step n m) x n 97 s = R ∧ (if q then runL (runW step n m) x (n - (pos + 1)) (97 + (pos + 1)) s4 else (q, s4)) = R := ⟨hRH.out, by
          rw [← hH.out, show n - pos = (n - (pos + 1)) + 1 by omega, runL, ← hpe.out, hT, if_pos he]; rfl⟩
        have hL1 : (x ++ [b]).length + m = L := by simp; omega
        have hl1 := letters_snoc hl hb97 hb96
        clear hT he
        cases q with
        | true =>
          have hRn := Lib.hid hRr.2
          clear hRr
          go_wp2_with (first
            | (at_builtin; refine wpList_push8 rfl _ _ rfl rfl hra _ _ b rfl hcell hlen ?_; intro v2 g2 w2 hr2 hrx hpre hg2 hF2; have hstr := hr2.str 55 9 rfl rfl)
            | (go_at_call 81; refine (ends_any _ (by show (x ++ [b]).length ≤ _; simp; omega) _).mono ?_; rintro e w3 ⟨rfl, hb3⟩; rw [hos, heH.out]; obtain ⟨f1, f2, f3, f4, f5⟩ := round_near hr hitsz hF1 hfn hF2 hrx hb3)
            | (go_at_call 55
               have hI3 := E.keep O1 s1 wn w3 hIn (Nat.le_of_lt f4) (fun i hi => f5 i (E.lt _ _ _ _ hIn hi) (fun e => hO1o i e hi))
               have hr3 := hr2.same (w' := w3) (fun g hg => hb3.block g (hr2.lt hg))
               have hg3 : ∀ g, some g2 = some g → ¬ O1 g := fun g hg h => by
                 have hgg : g2 = g := by simpa using hg
                 rcases hg2 with h2 | h2
                 · exact hO1o g (by rw [h2, hgg]) h
                 · have h3 := E.lt _ _ _ _ hIn h
                   simp at h2; omega
               refine (ih O1 s1 w3 v2 (some g2) (x ++ [b]) hcs.out.1 hL1 hl1 hI3 hr3 hg3).mono ?_
               rintro e w4 ⟨O4, rfl, hI4, hr4, hF4, hO4⟩
               rw [hTH.out] at hI4 ⊢))
          have hN : w.heap.size < (wn.alloc (.cells #[.int .u8 (b.toNat : Int)] 5)).heap.size := by have := hfn.size; simp; omega
          obtain ⟨q1, q2, q3⟩ := round_far hr f1 f3 (by have := hfn.size; omega) hpre hg2 hN hlt0 ho hO1 hF4 hr4
          have hit3 := q2.trans (f2.trans hit2)
          exact ⟨⟨pos + 1, O4, s4, by omega, hI4, fun i hi => (hO4 i hi).elim (hO1 i) (fun h => Or.inr (by have := hfn.size; omega)), q3, hit3, q1, hRn, Lib.hid (hcs.out.2 s4 hc4.out)⟩, by simp only [World.iterPos, hit3, hit]; omega⟩
        | false =>
          have hRn := Lib.hid (show (false, s4) = R from hRr.2)
          clear hRr
          go_wp2_with (first
            | (at_builtin; refine wpList_push8 rfl _ _ rfl rfl hra _ _ b rfl hcell hlen ?_; intro v2 g2 w2 hr2 hrx hpre hg2 hF2; have hstr := hr2.str 55 9 rfl rfl)
            | (go_at_call 81; refine (ends_any _ (by show (x ++ [b]).length ≤ _; simp; omega) _).mono ?_; rintro e w3 ⟨rfl, hb3⟩; rw [hos, heH.out]; obtain ⟨f1, f2, f3, f4, f5⟩ := round_near hr hitsz hF1 hfn hF2 hrx hb3)
            | (go_at_call 55
               have hI3 := E.keep O1 s1 wn w3 hIn (Nat.le_of_lt f4) (fun i hi => f5 i (E.lt _ _ _ _ hIn hi) (fun e => hO1o i e hi))
               have hr3 := hr2.same (w' := w3) (fun g hg => hb3.block g (hr2.lt hg))
               have hg3 : ∀ g, some g2 = some g → ¬ O1 g := fun g hg h => by
                 have hgg : g2 = g := by simpa using hg
                 rcases hg2 with h2 | h2
                 · exact hO1o g (by rw [h2, hgg]) h
                 · have h3 := E.lt _ _ _ _ hIn h
                   simp at h2; omega
               refine (ih O1 s1 w3 v2 (some g2) (x ++ [b]) hcs.out.1 hL1 hl1 hI3 hr3 hg3).mono ?_
               rintro e w4 ⟨O4, rfl, hI4, hr4, hF4, hO4⟩
               rw [hTH.out] at hI4 ⊢))
          go_ret
          have hN : w.heap.size < (wn.alloc (.cells #[.int .u8 (b.toNat : Int)] 5)).heap.size := by have := hfn.size; simp; omega
          obtain ⟨q1, q2, q3⟩ := round_far hr f1 f3 (by have := hfn.size; omega) hpre hg2 hN hlt0 ho hO1 hF4 hr4
          exact ⟨O4, by rw [← hRn.out]; rfl, by rw [← hRn.out]; exact hI4, q3, q1, fun i hi => (hO4 i hi).elim (fun h => (hO1 i h).imp id Nat.le_of_lt) (fun h => Or.inr (by have := hfn.size; omega))⟩
      · obtain ⟨z, hz⟩ : ∃ z, endsS (x ++ [b]) = z := ⟨_, rfl⟩
        have hz0 : ((z : Int) == 0) = false := by simp; omega
        have hzH := Lib.hid hz
        have hRn := Lib.hid (show runL (runW step n m) x (n - (pos + 1)) (97 + (pos + 1)) s1 = R by
          rw [← hH.out, show n - pos = (n - (pos + 1)) + 1 by omega, runL, if_neg (by rw [← hpe.out]; exact he)]; rfl)
        clear hz he
        go_wp2_with (first
          | (at_builtin; refine wpList_push8 rfl _ _ rfl rfl hra _ _ b rfl hcell hlen ?_; intro v2 g2 w2 hr2 hrx hpre hg2 hF2; have hstr := hr2.str 55 9 rfl rfl)
          | (go_at_call 81; refine (ends_any _ (by show (x ++ [b]).length ≤ _; simp; omega) _).mono ?_; rintro e w3 ⟨rfl, hb3⟩; rw [hos, hzH.out]; obtain ⟨f1, f2, f3, f4, f5⟩ := round_near hr hitsz hF1 hfn hF2 hrx hb3))
        have hit3 := f2.trans hit2
        exact ⟨⟨pos + 1, O1, s1, by omega, E.keep O1 s1 wn w3 hIn (Nat.le_of_lt f4) (fun i hi => f5 i (E.lt _ _ _ _ hIn hi) (fun e => hO1o i e hi)), hO1, f3, hit3, f1, hRn, Lib.hid (hcs.out.2 s1 (by omega))⟩, by simp only [World.iterPos, hit3, hit]; omega⟩
    · have hsz4 : (abcd.extract 0 n).size = n := by rw [ByteArray.size_extract]; show min n 4 - 0 = n; omega
      have hnx : ∀ ty, (Instr.next (.pointer (some ⟨w.heap.size, 0, none⟩)) true ty).run Try.prog wr = _ := fun ty => Lib.run_next_end_at wr w.heap.size _ pos ty hit (by omega)
      have hRe := Lib.hid (show (true, s1) = R by rw [← hH.out, show n - pos = 0 by omega, runL])
      clear hsz4
      go_wp2_with (fail)
      go_ret
      exact ⟨O1, by rw [← hRe.out]; rfl, by rw [← hRe.out]; exact hI1, hr1, hF1, fun i hi => (hO1 i hi).imp id Nat.le_of_lt⟩
/-- walk -/
theorem walk_any (E : Each k cap n L C step) (hn : n ≤ 4) (hL7 : L ≤ 700) (m : Nat) : ∀ (O : Nat → Prop) (s : σ) (w : World) (v : Value) (og : Option Nat) (x : Word), E.cost s + 4 ^ m ≤ C → x.length + m = L → lettersS x n = true → E.I O s w → Row8 w v og x → (∀ g, og = some g → ¬ O g) →
      Calls Try.prog 55 #[v, .int .i64 n, .int .i64 m, .func (.func k) #[] cap] w fun e w' => ∃ O', e = .returned (.bool (runW step n m s x).1) ∧ E.I O' (runW step n m s x).2 w' ∧ Row8 w' v og x ∧ Fr (fun i => O i ∨ og = some i) w w' ∧ ∀ i, O' i → O i ∨ w.heap.size ≤ i := by
  induction m with
  | zero =>
    intro O s w v og x hC hL hl hI hr ho
    refine (walk_zero E O s w v og x (by omega) hl hI hr ho (by have : 4 ^ 0 = 1 := rfl; omega)).mono ?_
    rintro e w' ⟨O', rfl, h1, h2, h3⟩
    exact ⟨O', rfl, h1, h2.same hr ho, ⟨h2.os, h2.tape, h2.output, h2.size, fun i hi hS => h2.block i hi (fun h => hS (Or.inl h))⟩, h3⟩
  | succ m ih =>
    intro O s w v og x hC hL hl hI hr ho
    refine walk_succ E m (m + 1) (4 ^ m) rfl hn (cost_runW hn E.cost_step m) ih O s w v og x ?_ hL hL7 hl hI hr ho
    have h2 : n * 4 ^ m ≤ 4 * 4 ^ m := Nat.mul_le_mul_right _ hn
    rw [Nat.pow_succ] at hC
    omega
end
end Go.Proofs.Ytdaaiockkbolbaa
