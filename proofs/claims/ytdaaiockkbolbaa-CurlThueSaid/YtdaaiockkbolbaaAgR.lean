/- Proofs against a rule: the reference's, which are the program's. -/
import Derived.Test.YtdaaiockkbolbaaAg
import Derived.Test.YtdaaiockkbolbaaWordsR
import Derived.Test.YtdaaiockkbolbaaPlain
namespace Go.Proofs.Ytdaaiockkbolbaa
open Go.RowKit
/-- whether a word is a proof against a rule -/
def pfS (ws : List ByteArray) (x : Word) : Bool := cleanS x && !cleanS (putS ws x)
/-- all words that begin with a word and are m letters longer -/
def extW (n : Nat) : Nat → Word → List Word
  | 0, x => [x]
  | m + 1, x => (List.range' 0 n).flatMap fun j => extW n m (x ++ [(97 + j).toUInt8])
theorem ext_pre (n m : Nat) : ∀ x y, y ∈ extW n m x → ∃ z, y = x ++ z := by
  induction m with
  | zero => intro x y hy; simp [extW] at hy; exact ⟨[], by simp [hy]⟩
  | succ m ih =>
    intro x y hy
    rw [extW, List.mem_flatMap] at hy
    obtain ⟨j, _, hy⟩ := hy
    obtain ⟨z, rfl⟩ := ih _ _ hy
    exact ⟨(97 + j).toUInt8 :: z, by simp⟩
theorem clean_pre {x z : Word} (h : cleanS (x ++ z) = true) : cleanS x = true := by
  rw [clean_iff] at h ⊢
  intro e h1 h2
  have := h e h1 (by simp; omega)
  rwa [List.take_append_of_le_length h2] at this
theorem ext_none {ws : List ByteArray} {n m : Nat} {x : Word} (h : cleanS x ≠ true) : (extW n m x).find? (pfS ws) = none := by
  rw [List.find?_eq_none]
  intro y hy hp
  obtain ⟨z, rfl⟩ := ext_pre n m x y hy
  simp only [pfS, Bool.and_eq_true] at hp
  exact h (clean_pre hp.1)
def resA : Option Word → Bool × Word
  | some y => (false, y)
  | none => (true, [])
theorem runA_go (ws : List ByteArray) (n m : Nat) : ∀ x : Word, cleanS x = true → 1 ≤ x.length + m → runW (stepA ws) n m [] x = resA ((extW n m x).find? (pfS ws)) := by
  induction m with
  | zero =>
    intro x h h1
    have hx : x.isEmpty = false := by cases x with
      | nil => simp at h1
      | cons a l => rfl
    simp only [runW, stepA, extW, List.find?_cons, List.find?_nil, pfS, h, Bool.true_and, hx]
    cases cleanS (putS ws x) <;> rfl
  | succ m ih =>
    intro x h _
    have hall : ∀ k j, runL (runW (stepA ws) n m) x k (97 + j) [] = resA (((List.range' j k).flatMap fun c => extW n m (x ++ [(97 + c).toUInt8])).find? (pfS ws)) := by
      intro k
      induction k with
      | zero => intro j; rfl
      | succ k ik =>
        intro j
        have hi := ik (j + 1)
        rw [← Nat.add_assoc] at hi
        rw [runL, List.range'_succ, List.flatMap_cons, List.find?_append]
        by_cases he : endsS (x ++ [(97 + j).toUInt8]) = 0
        · have hcl := (clean_snoc h _).2 he
          rw [if_pos he, ih _ hcl (by simp; omega)]
          cases hf : (extW n m (x ++ [(97 + j).toUInt8])).find? (pfS ws) with
          | some y => rfl
          | none => exact hi
        · rw [if_neg he, ext_none (fun h2 => he ((clean_snoc h _).1 h2))]
          exact hi
    exact hall n 0
theorem ext_snoc (n m : Nat) : ∀ x : Word, ((extW n m x).flatMap fun y => (List.range' 0 n).map fun j => y ++ [(97 + j).toUInt8]) = extW n (m + 1) x := by
  induction m with
  | zero =>
    intro x
    simp only [extW, List.flatMap_cons, List.flatMap_nil, List.append_nil]
    exact List.map_eq_flatMap
  | succ m ih =>
    intro x
    rw [extW, List.flatMap_assoc]
    simp only [ih]
    rfl
theorem words_ext (n L : Nat) : (wordsB n L).map bts = extW n L [] := by
  induction L with
  | zero => rfl
  | succ L ih =>
    rw [← ext_snoc, ← ih, wordsB, List.map_flatMap, List.flatMap_map]
    congr 1
    funext t
    rw [extB, List.map_map, List.range_eq_range']
    congr 1
theorem clean_nil : cleanS [] = true := rfl
theorem ag_find {ws : List ByteArray} {n j : Nat} (h : agS ws n j = []) : agS ws n (j + 1) = (((wordsB n (j + 1)).map bts).find? (pfS ws)).getD [] := by
  rw [agS, h, words_ext]
  show (runW (stepA ws) n (j + 1) [] []).2 = _
  rw [runA_go ws n (j + 1) [] clean_nil (by simp)]
  cases ((extW n (j + 1) []).find? (pfS ws)) <;> rfl
theorem ag_none {ws : List ByteArray} {n j : Nat} (h : agS ws n j = []) (hp : ∀ t ∈ wordsB n (j + 1), pfS ws (bts t) = false) : agS ws n (j + 1) = [] := by
  rw [ag_find h, List.find?_eq_none.2]
  · rfl
  · intro y hy
    obtain ⟨t, ht, rfl⟩ := List.mem_map.1 hy
    rw [hp t ht]; decide
theorem ag_hit {ws : List ByteArray} {n j i : Nat} {t : ByteArray} (h : agS ws n j = []) (hi : (wordsB n (j + 1))[i]? = some t) (hp : ∀ u ∈ (wordsB n (j + 1)).take i, pfS ws (bts u) = false) (ht : pfS ws (bts t) = true) : agS ws n (j + 1) = bts t := by
  rw [ag_find h, List.find?_map]
  have hf : (wordsB n (j + 1)).find? (pfS ws ∘ bts) = some t := by
    rw [List.find?_eq_some_iff_getElem]
    obtain ⟨hl, he⟩ := List.getElem?_eq_some_iff.1 hi
    refine ⟨ht, i, hl, he, fun k hk => ?_⟩
    have := hp ((wordsB n (j + 1))[k]'(by omega)) (by rw [List.mem_take_iff_getElem]; exact ⟨k, by omega, rfl⟩)
    show (!pfS ws (bts _)) = true
    rw [this]; rfl
  rw [hf]; rfl
set_option maxRecDepth 100000 in
set_option maxHeartbeats 4000000 in
theorem proof_any (A : Option Addr) (n c : Nat) (ws : List ByteArray) (s : ByteArray) (w : World) (B : Nat) (hB : B ≤ w.heap.size) (hr : RStrs w B A n ws) (hn : n ≤ 4) (hl : lettersS (bts s) (n : Int) = true) (hsz : s.size ≤ 1000) (hws : ∀ t ∈ ws, t.size ≤ 1000) :
    Calls Try.prog 73 #[.agg #[.slice A n c], .string s] w fun e w' => e = .returned (.bool (pfS ws (bts s))) ∧ Below w.heap.size w w' := by
  have hrep := Lib.hid (fun (w' : World) (B' : Nat) h1 h2 => replaced_any A n c ws s w' B' h1 h2 hn hl (by omega) hws)
  have hpl := putS_len hws (bts s)
  rw [bts_len] at hpl
  have hp6 : s.size * 1000 ≤ 1000 * 1000 := Nat.mul_le_mul_right _ hsz
  have hcl := Lib.hid (fun w' => refClean_any ⟨(putS ws (bts s)).toArray⟩ (by show (putS ws (bts s)).length ≤ _; omega) w')
  have hcb : bts ⟨(putS ws (bts s)).toArray⟩ = putS ws (bts s) := rfl
  have hcs := Lib.hid (fun w' => refClean_any s (by omega) w')
  clear hpl hp6 hl hws
  cases hq : cleanS (bts s) with
  | false =>
    have hR := Lib.hid (show pfS ws (bts s) = false by rw [pfS, hq]; rfl)
    have hqH := Lib.hid hq
    clear hq
    go_enter Try.func73, Try.ntmps73
    go_wp2_with (first
      | (with_reducible show wpList _ _ _ (⟨_, .box 40 _, _, _, _, _⟩ :: _) _ _
         refine wpList_box_blk rfl 40 _ rfl #[.slice A n c] rfl ?_
         intro w1 g hG hgr hge
         have hk := Rk.box hB hr hG hgr
         have hRB := hk.b
         clear hG hgr hge)
      | (go_at_call 49; refine (hcs.out _).mono ?_; rintro e w2 ⟨rfl, hb2⟩; rw [hqH.out]))
    go_ret
    exact ⟨by rw [hR.out]; rfl, hk.be.trans (hb2.mono hk.be.size)⟩
  | true =>
    obtain ⟨q, hp⟩ : ∃ q, cleanS (putS ws (bts s)) = q := ⟨_, rfl⟩
    have hR := Lib.hid (show pfS ws (bts s) = !q by rw [pfS, hq, hp]; rfl)
    have hqH := Lib.hid hq
    have hpH := Lib.hid hp
    clear hq hp
    go_enter Try.func73, Try.ntmps73
    go_wp2_with (first
      | (with_reducible show wpList _ _ _ (⟨_, .box 40 _, _, _, _, _⟩ :: _) _ _
         refine wpList_box_blk rfl 40 _ rfl #[.slice A n c] rfl ?_
         intro w1 g hG hgr hge
         have hk := Rk.box hB hr hG hgr
         have hRB := hk.b
         have _k1 := hcs
         clear hG hgr hge)
      | (with_reducible show wpList _ _ _ (⟨_, .load 40 _, _, _, _, _⟩ :: _) _ _
         refine wpList_load_blk rfl 40 _ rfl g rfl 40 #[.slice A n c] _ hk.bk Try.underlying40 rfl (info_oneR _) ?_)
      | (go_at_call 49; clear _k1; refine (hcs.out _).mono ?_; rintro e w2 ⟨rfl, hb2⟩; rw [hqH.out]
         replace hk := hk.call hb2
         replace hRB := hk.b
         have cg := hk.cell
         clear hb2)
      | (go_at_call 70; refine (hrep.out _ B hRB hk.rs).mono ?_; rintro e w3 ⟨rfl, hb3⟩
         replace hk := hk.call hb3
         clear hb3 hRB)
      | (go_at_call 49; refine (hcl.out _).mono ?_; rintro e w4 ⟨rfl, hb4⟩; rw [hcb, hpH.out]))
    go_ret
    exact ⟨by rw [hR.out]; rfl, hk.be.trans (hb4.mono hk.be.size)⟩
end Go.Proofs.Ytdaaiockkbolbaa
