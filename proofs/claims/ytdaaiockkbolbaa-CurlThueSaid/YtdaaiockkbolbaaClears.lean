/- The law's clears: all clear words of a length. -/
import Derived.Test.YtdaaiockkbolbaaTwice
import Derived.Test.YtdaaiockkbolbaaAgR
namespace Go.Proofs.Ytdaaiockkbolbaa
open Go.RowKit
theorem tail_sq {l : Word} {e k : Nat} (he : e ≤ l.length) (hk : 2 * k ≤ e) : tailEq (l.take e) k = sqAt l (e - 2 * k) k := by
  unfold tailEq sqAt
  rw [List.length_take, Nat.min_eq_left he, List.take_take, Nat.min_eq_left (by omega), List.drop_take, List.drop_take, show e - 2 * k + k = e - k by omega, show e - (e - k) = k by omega, show e - k - (e - 2 * k) = k by omega, Bool.eq_iff_iff, beq_iff_eq, beq_iff_eq]
  exact ⟨fun h => h.symm, fun h => h.symm⟩
theorem tw_mem {l : Word} {a k : Nat} : (a, k) ∈ twL l ↔ 1 ≤ k ∧ a + 2 * k ≤ l.length ∧ sqAt l a k = true := by
  unfold twL twN rowN
  simp only [List.mem_flatMap, List.mem_range'_1, List.mem_map, List.mem_filter, List.mem_range, Prod.mk.injEq]
  constructor
  · rintro ⟨k', ⟨h1, h2⟩, a', ⟨h3, h4⟩, rfl, rfl⟩
    exact ⟨h1, by omega, h4⟩
  · rintro ⟨h1, h2, h3⟩
    exact ⟨k, ⟨h1, by omega⟩, a, ⟨by omega, h3⟩, rfl, rfl⟩
theorem tw_clean (l : Word) : (twL l).isEmpty = cleanS l := by
  rw [Bool.eq_iff_iff, clean_iff, List.isEmpty_iff]
  constructor
  · intro h e h1 h2
    refine endsS_none fun k hk hk2 => ?_
    rw [List.length_take, Nat.min_eq_left h2] at hk2
    rw [tail_sq h2 hk2, Bool.eq_false_iff]
    intro hs
    have : (e - 2 * k, k) ∈ twL l := tw_mem.2 ⟨hk, by omega, hs⟩
    rw [h] at this
    cases this
  · intro h
    refine List.eq_nil_iff_forall_not_mem.2 fun p hp => ?_
    obtain ⟨a, k⟩ := p
    obtain ⟨h1, h2, h3⟩ := tw_mem.1 hp
    have h4 := endsS_zero (h (a + 2 * k) (by omega) h2) k h1 (by rw [List.length_take]; omega)
    rw [tail_sq h2 (by omega), show a + 2 * k - 2 * k = a by omega, h3] at h4
    cases h4
theorem tw_len (l : Word) : ((twL l).length == 0) = cleanS l := by
  rw [← tw_clean]
  cases twL l <;> rfl
/-- all clear words of the first k letters with a length -/
def clB (k : Nat) : Nat → List ByteArray
  | 0 => [⟨#[]⟩]
  | L + 1 => (clB k L).flatMap fun t => (extB t k).filter fun x => cleanS (bts x)
theorem ext_clean_none {n m : Nat} {x : Word} (h : cleanS x ≠ true) : (extW n m x).filter cleanS = [] := by
  rw [List.filter_eq_nil_iff]
  intro y hy hc
  obtain ⟨z, rfl⟩ := ext_pre n m x y hy
  exact h (clean_pre hc)
theorem filter_flat {α β : Type} (p : β → Bool) (f : α → List β) (l : List α) : (l.flatMap f).filter p = l.flatMap fun a => (f a).filter p := by
  induction l with
  | nil => rfl
  | cons a l ih => simp only [List.flatMap_cons, List.filter_append, ih]
theorem flat_filter {α β : Type} (q : α → Bool) (f : α → List β) (l : List α) (h : ∀ a, q a ≠ true → f a = []) : (l.filter q).flatMap f = l.flatMap f := by
  induction l with
  | nil => rfl
  | cons a l ih =>
    rw [List.filter_cons]
    by_cases hq : q a = true
    · rw [if_pos hq, List.flatMap_cons, List.flatMap_cons, ih]
    · rw [if_neg hq, List.flatMap_cons, h a hq, ih]; rfl
theorem clB_ext (k L : Nat) : (clB k L).map bts = (extW k L []).filter cleanS := by
  induction L with
  | zero => rfl
  | succ L ih =>
    rw [← ext_snoc, filter_flat, ← flat_filter cleanS, ← ih, clB, List.map_flatMap, List.flatMap_map]
    · congr 1
      funext t
      rw [extB, List.range_eq_range', List.filter_map, List.map_map, List.filter_map]
      congr 1
    · intro y hy
      rw [List.filter_eq_nil_iff]
      intro z hz hc
      obtain ⟨j, _, rfl⟩ := List.mem_map.1 hz
      exact hy (clean_pre hc)
theorem clB_len (k : Nat) (hk : k ≤ 4) (L : Nat) : (clB k L).length ≤ 4 ^ L := by
  induction L with
  | zero => simp [clB]
  | succ L ih =>
    have key : ∀ l : List ByteArray, (l.flatMap fun t => (extB t k).filter fun x => cleanS (bts x)).length ≤ l.length * 4 := by
      intro l
      induction l with
      | nil => simp
      | cons a l il =>
        rw [List.flatMap_cons, List.length_append, List.length_cons]
        have h1 : ((extB a k).filter fun x => cleanS (bts x)).length ≤ k := by
          have := List.length_filter_le (fun x => cleanS (bts x)) (extB a k)
          rwa [extB_len] at this
        omega
    have := key (clB k L)
    rw [clB, Nat.pow_succ]
    omega
theorem clB_size (k L : Nat) : ∀ t ∈ clB k L, t.size = L := by
  induction L with
  | zero => intro t ht; simp [clB] at ht; subst ht; rfl
  | succ L ih =>
    intro t ht
    rw [clB, List.mem_flatMap] at ht
    obtain ⟨u, hu, hx⟩ := ht
    have hx := (List.mem_filter.1 hx).1
    simp only [extB, List.mem_map] at hx
    obtain ⟨j, _, rfl⟩ := hx
    have := ih u hu
    rw [← bts_len, bts_append, List.length_append, bts_len, this]
    rfl
/-- of the words with one letter more, those that are clear -/
def clE (t : ByteArray) (k : Nat) : List ByteArray := (extB t k).filter fun x => cleanS (bts x)
theorem clE_succ (t : ByteArray) (k : Nat) : clE t (k + 1) = clE t k ++ (if cleanS (bts (t ++ ⟨#[(97 + k).toUInt8]⟩)) then [t ++ ⟨#[(97 + k).toUInt8]⟩] else []) := by
  unfold clE
  rw [extB_succ, List.filter_append]
  congr 1
  by_cases h : cleanS (bts (t ++ ⟨#[(97 + k).toUInt8]⟩)) = true
  · rw [if_pos h, List.filter_cons, if_pos h]; rfl
  · rw [if_neg h, List.filter_cons, if_neg h]; rfl
theorem clE_len (t : ByteArray) (k : Nat) : (clE t k).length ≤ k := by
  have := List.length_filter_le (fun x => cleanS (bts x)) (extB t k)
  rwa [extB_len] at this
theorem clF_len (l : List ByteArray) {k : Nat} (hk : k ≤ 4) : (l.flatMap fun t => clE t k).length ≤ l.length * 4 := by
  induction l with
  | nil => simp
  | cons a l il =>
    rw [List.flatMap_cons, List.length_append, List.length_cons]
    have := clE_len a k
    omega
set_option maxRecDepth 100000 in
set_option maxHeartbeats 4000000 in
theorem clears_any (k : Nat) (hk : k ≤ 4) (N : Nat) (hN : N ≤ 10) (w : World) : Calls Try.prog 43 #[.int .i64 k, .int .i64 N] w (RetS (clB k N) w) := by
  have hNi : (N : Int) ≤ 10 := by omega
  have hki : (k : Int) ≤ 4 := by omega
  go_enter Try.func43, Try.ntmps43
  go_wp2_with (fail)
  go_loopw [5, 13] (fun o v wr => ∃ L : Nat, L ≤ N ∧ v = .int .i64 L ∧ OwnS wr w.heap.size o (clB k L) ∧ Below w.heap.size w wr) (fun _ v _ => N - (intOf v).toNat)
  case atStart =>
    exact ⟨0, by omega, rfl, ⟨rfl, .inr ⟨w.heap.size, 1, #[.string ⟨#[]⟩], rfl, Nat.le_refl _, Blk.new w _ _, Nat.le_refl _, by decide, rfl, rfl⟩⟩, (Below.refl _ _).alloc (Nat.le_refl _) _⟩
  case round =>
    obtain ⟨L, hL, rfl, hv, hbe0⟩ := hrel
    obtain ⟨W1, rfl⟩ : ∃ W1, W1 = wr := ⟨_, rfl⟩
    by_cases hlt : L < N
    · have hlti : (L : Int) < N := by omega
      have hl4 := clB_len k hk L
      have hp4 : 4 ^ L ≤ 4 ^ 10 := Nat.pow_le_pow_right (by omega) (by omega)
      have h410 : (4 : Nat) ^ 10 = 1048576 := by decide
      have hsz := Lib.hid (clB_size k L)
      have hT := Lib.hid (show (clB k L).flatMap (fun t => clE t k) = clB k (L + 1) from rfl)
      obtain ⟨l, hl⟩ : ∃ l, clB k L = l := ⟨_, rfl⟩
      rw [hl] at hl4 hsz hT hv
      have hll : l.length ≤ 1048576 := by omega
      clear hl hl4 hp4 h410
      obtain ⟨A, c, rfl, hrl⟩ := hv.reads
      have hs0 := hbe0.size
      go_wp2_with (fail)
      go_loopw [6, 17] (fun o v wr2 => ∃ i : Nat, i ≤ l.length ∧ v = .int .i64 i ∧ OwnS wr2 W1.heap.size o ((l.take i).flatMap fun t => clE t k) ∧ Below W1.heap.size W1 wr2) (fun _ v _ => l.length - (intOf v).toNat)
      case atStart => exact ⟨0, by omega, rfl, OwnS.nil _ _, Below.refl _ _⟩
      case round =>
        obtain ⟨i, hi, rfl, ho, hbe⟩ := hrel
        by_cases hlt2 : i < l.length
        · have hlt2i : (i : Int) < l.length := by omega
          obtain ⟨ad, t, rfl, hadb, hcell, hlt'⟩ := (hrl.later (Nat.le_refl _) hbe).at_ hlt2
          have hts := hsz.out t (List.mem_of_getElem? hlt'.out)
          have hOL := clF_len (l.take i) (k := k) hk
          rw [List.length_take, Nat.min_eq_left (by omega)] at hOL
          have hNext := Lib.hid (show (l.take (i + 1)).flatMap (fun t => clE t k) = ((l.take i).flatMap fun t => clE t k) ++ clE t k by rw [List.take_add_one, hlt'.out]; simp)
          obtain ⟨P, hP⟩ : ∃ P, ((l.take i).flatMap fun t => clE t k) = P := ⟨_, rfl⟩
          rw [hP] at ho hOL hNext
          have hts10 : t.size ≤ 10 := by omega
          have htsI : (t.size : Int) ≤ 8388608 := by omega
          clear hP hts
          go_wp2_with (fail)
          go_loopw [6, 22] (fun o v wr3 => ∃ j : Nat, j ≤ k ∧ v = .int .i64 j ∧ OwnS wr3 W1.heap.size o (P ++ clE t j) ∧ Below W1.heap.size W1 wr3) (fun _ v _ => k - (intOf v).toNat)
          case atStart => exact ⟨0, by omega, rfl, by simpa [clE, extB] using ho, hbe⟩
          case round =>
            obtain ⟨j, hj, rfl, ho, hbe⟩ := hrel
            by_cases hjk : j < k
            · have hjki : (j : Int) < k := by omega
              have hsb := hbe.size
              obtain ⟨y, hy⟩ : ∃ y : ByteArray, (⟨#[(97 + j).toUInt8]⟩ : ByteArray) = y := ⟨_, rfl⟩
              have hys1 : y.size ≤ 1 := by rw [← hy]; exact Nat.le_refl 1
              have hys : (y.size : Int) ≤ 8388608 := by omega
              have hadd : ∀ w', (Op.stringOp .add t y).run Try.prog w' = .ok (.string (t ++ y)) w' := fun w' => run_string_add w' t y htsI hys
              have hN := Lib.hid (show P ++ clE t (j + 1) = (P ++ clE t j) ++ (if cleanS (bts (t ++ y)) then [t ++ y] else []) by rw [clE_succ, hy, List.append_assoc])
              have hlet := Lib.hid (fun w' => letter_any (k := j) (by omega) w')
              rw [hy] at hlet
              have hxs : (t ++ y).size ≤ 1000 := by
                have : (t ++ y).size = t.size + y.size := by rw [← bts_len, bts_append, List.length_append, bts_len, bts_len]
                omega
              have htw := Lib.hid (fun w' => twice_any (t ++ y) hxs w')
              have htl := tw_len (bts (t ++ y))
              have hcj := clE_len t j
              have hPL : (P ++ clE t j).length ≤ 1000000000 := by rw [List.length_append]; omega
              obtain ⟨q, hq⟩ : ∃ q, cleanS (bts (t ++ y)) = q := ⟨_, rfl⟩
              rw [hq] at hN htl
              obtain ⟨T, hT2⟩ : ∃ T, twL (bts (t ++ y)) = T := ⟨_, rfl⟩
              rw [hT2] at htl htw
              obtain ⟨tn, htn⟩ : ∃ tn, T.length = tn := ⟨_, rfl⟩
              rw [htn] at htl
              have htli : ((tn : Int) == 0) = q := by rw [← htl, Bool.eq_iff_iff]; simp
              have htnH := Lib.hid htn
              obtain ⟨PK, hPK⟩ : ∃ PK, P ++ clE t j = PK := ⟨_, rfl⟩
              rw [hPK] at hPL hN ho
              clear hq hy hPK hcj hT2 htl htn
              cases q with
              | true =>
                rw [if_pos rfl] at hN
                go_wp2_with (first
                  | (go_at_call 42; refine (hlet.out _).mono ?_; rintro e w4 ⟨rfl, rfl⟩)
                  | (go_at_call 41; refine (htw.out _).mono ?_; rintro e w5 ⟨v5, rfl, hv5, hb5⟩
                     obtain ⟨A5, c5, rfl⟩ := hv5.form
                     rw [htnH.out]
                     have ho5 := ho.callee hb5
                     have hbe5 := hbe.trans (hb5.mono hbe.size)
                     clear hv5 hb5)
                  | (at_builtin
                     refine wpList_pushS rfl _ _ rfl rfl (ho5.none_ (World.grownBy_alloc w5 _ none)) w5.heap.size 1 (t ++ y) rfl (Blk.new w5 _ _) hPL (by have := hbe5.size; show _ ≤ (w5.heap.push _).size; simp; omega) ?_
                     intro g6 cap6 w6 ho6 hgr6 _ _
                     have hb6 := (hbe5.alloc hbe5.size (.cells #[.string (t ++ y)] 9)).grown hgr6 (by have := hbe5.size; show _ ≤ (w5.heap.push _).size; simp; omega) (fun g hg => ho5.ge hg)))
                go_roundw
                case rel => exact ⟨j + 1, by omega, by go_num, by rw [hN.out]; simpa [OwnS] using ho6, hb6⟩
                case measure => simp only [intOf]; omega
              | false =>
                rw [if_neg (by decide), List.append_nil] at hN
                go_wp2_with (first
                  | (go_at_call 42; refine (hlet.out _).mono ?_; rintro e w4 ⟨rfl, rfl⟩)
                  | (go_at_call 41; refine (htw.out _).mono ?_; rintro e w5 ⟨v5, rfl, hv5, hb5⟩
                     obtain ⟨A5, c5, rfl⟩ := hv5.form
                     rw [htnH.out]
                     have ho5 := ho.callee hb5
                     have hbe5 := hbe.trans (hb5.mono hbe.size)
                     clear hv5 hb5))
                go_roundw
                case rel => exact ⟨j + 1, by omega, by go_num, by rw [hN.out]; exact ho5, hbe5⟩
                case measure => simp only [intOf]; omega
            · have hjki : ¬ (j : Int) < k := by omega
              have hfull := Lib.hid (show P ++ clE t j = P ++ clE t k by rw [show j = k by omega])
              rw [hfull.out, ← hNext.out] at ho
              go_wp2_with (fail)
              go_roundw
              case rel => exact ⟨i + 1, by omega, by go_num, ho, hbe⟩
              case measure => simp only [intOf]; omega
        · have hlt2i : ¬ (i : Int) < l.length := by omega
          rw [List.take_of_length_le (by omega), hT.out] at ho
          go_wp2_with (fail)
          go_roundw
          case rel => exact ⟨L + 1, by omega, by go_num, ho.rebase hs0, hbe0.trans (hbe.mono hs0)⟩
          case measure => simp only [intOf]; omega
    · have hlti : ¬ (L : Int) < N := by omega
      obtain rfl : L = N := by omega
      go_wp2_with (fail)
      go_ret
      exact ⟨_, rfl, hv, hbe0⟩
end Go.Proofs.Ytdaaiockkbolbaa
