/- The reference's words: all words of some first letters with a length. -/
import Derived.Test.YtdaaiockkbolbaaOwnS
import Derived.Test.YtdaaiockkbolbaaRefNext
import Derived.Test.YtdaaiockkbolbaaPut
import Derived.Deep.RegionHeld3
namespace Go.Proofs.Ytdaaiockkbolbaa
open Go.RowKit
/-- a word with one letter more, for each of the first k letters -/
def extB (t : ByteArray) (k : Nat) : List ByteArray := (List.range k).map fun j => t ++ ⟨#[(97 + j).toUInt8]⟩
def wordsB (n : Nat) : Nat → List ByteArray
  | 0 => [⟨#[]⟩]
  | L + 1 => (wordsB n L).flatMap fun t => extB t n
theorem extB_succ (t : ByteArray) (k : Nat) : extB t (k + 1) = extB t k ++ [t ++ ⟨#[(97 + k).toUInt8]⟩] := by
  simp [extB, List.range_succ]
theorem extB_len (t : ByteArray) (k : Nat) : (extB t k).length = k := by simp [extB]
theorem flat_len (l : List ByteArray) (n : Nat) : (l.flatMap fun t => extB t n).length = l.length * n := by
  induction l with
  | nil => simp
  | cons a l ih => simp only [List.flatMap_cons, List.length_append, ih, extB_len, List.length_cons, Nat.succ_mul]; omega
theorem wordsB_len (n L : Nat) : (wordsB n L).length = n ^ L := by
  induction L with
  | zero => rfl
  | succ L ih => rw [wordsB, flat_len, ih, Nat.pow_succ]
theorem wordsB_size (n L : Nat) : ∀ t ∈ wordsB n L, t.size = L := by
  induction L with
  | zero => intro t ht; simp [wordsB] at ht; subst ht; rfl
  | succ L ih =>
    intro t ht
    rw [wordsB, List.mem_flatMap] at ht
    obtain ⟨u, hu, hx⟩ := ht
    simp only [extB, List.mem_map] at hx
    obtain ⟨j, _, rfl⟩ := hx
    have := ih u hu
    rw [← bts_len, bts_append, List.length_append, bts_len, this]
    rfl
theorem OwnS.rebase {w : World} {b b' : Nat} {v : Value} {xs : List ByteArray} (h : OwnS w b v xs) (hb : b' ≤ b) : OwnS w b' v xs := by
  refine ⟨h.1, ?_⟩
  rcases h.2 with h0 | ⟨g, cap, cur, rfl, hg, r⟩
  · exact .inl h0
  · exact .inr ⟨g, cap, cur, rfl, Nat.le_trans hb hg, r⟩
/-- a list of strings that a call returns in new memory -/
def RetS (xs : List ByteArray) (w : World) (e : Ending) (w' : World) : Prop := ∃ v, e = .returned v ∧ OwnS w' w.heap.size v xs ∧ Below w.heap.size w w'
set_option maxRecDepth 100000 in
set_option maxHeartbeats 4000000 in
theorem words_any (n : Nat) (hn : n ≤ 4) (L : Nat) : ∀ (M : Nat) (w : World), M = L → L ≤ 3 → Calls Try.prog 86 #[.int .i64 n, .int .i64 M] w (RetS (wordsB n L) w) := by
  induction L with
  | zero =>
    intro M w hM _
    subst hM
    go_enter Try.func86, Try.ntmps86
    go_wp2_with (fail)
    go_ret
    refine ⟨_, rfl, ⟨rfl, .inr ⟨w.heap.size, 1, #[.string ⟨#[]⟩], rfl, Nat.le_refl _, Blk.new w _ _, ?_⟩⟩, (Below.refl _ _).alloc (Nat.le_refl _) _⟩
    exact ⟨Nat.le_refl _, by decide, rfl, rfl⟩
  | succ L ih =>
    intro M w hM hL3
    have hM0 : ((M : Int) == 0) = false := by simp; omega
    have hM1 : (M : Int) - 1 = L := by omega
    have hwl := wordsB_len n L
    have hlen : (wordsB n L).length ≤ 64 := by
      rw [hwl]
      have h1 := Nat.pow_le_pow_left hn L
      have h2 : 4 ^ L ≤ 4 ^ 3 := Nat.pow_le_pow_right (by omega) (by omega)
      have h3 : (4 : Nat) ^ 3 = 64 := by decide
      omega
    have hsz := Lib.hid (wordsB_size n L)
    have hT := Lib.hid (show (wordsB n L).flatMap (fun t => extB t n) = wordsB n (L + 1) from rfl)
    obtain ⟨l, hl⟩ : ∃ l, wordsB n L = l := ⟨_, rfl⟩
    rw [hl] at hlen hsz hT
    have hlH := Lib.hid hl
    clear hwl hl hM
    go_enter Try.func86, Try.ntmps86
    go_wp2_with (first
      | (go_at_call 86; refine (ih L _ rfl (by omega)).mono ?_; rintro e w1 ⟨v, rfl, hv, hb1⟩
         rw [hlH.out] at hv
         obtain ⟨A, c, rfl, hrl⟩ := hv.reads))
    go_loopw [5, 7] (fun o v wr => ∃ i : Nat, i ≤ l.length ∧ v = .int .i64 i ∧ OwnS wr w1.heap.size o ((l.take i).flatMap fun t => extB t n) ∧ Below w1.heap.size w1 wr) (fun _ v _ => l.length - (intOf v).toNat)
    case atStart => exact ⟨0, by omega, rfl, OwnS.nil _ _, Below.refl _ _⟩
    case round =>
      obtain ⟨i, hi, rfl, ho, hbe⟩ := hrel
      by_cases hlt : i < l.length
      · have hlti : (i : Int) < l.length := by omega
        obtain ⟨ad, t, rfl, hadb, hcell, hlt'⟩ := (hrl.later (Nat.le_refl _) hbe).at_ hlt
        have hts := hsz.out t (List.mem_of_getElem? hlt'.out)
        have hOL : ((l.take i).flatMap fun t => extB t n).length ≤ 64 * 4 := by
          rw [flat_len, List.length_take]
          exact Nat.mul_le_mul (by omega) hn
        have hNext := Lib.hid (show (l.take (i + 1)).flatMap (fun t => extB t n) = ((l.take i).flatMap fun t => extB t n) ++ extB t n by rw [List.take_add_one, hlt'.out]; simp)
        obtain ⟨P, hP⟩ : ∃ P, ((l.take i).flatMap fun t => extB t n) = P := ⟨_, rfl⟩
        rw [hP] at ho hOL hNext
        clear hP
        go_wp2_with (fail)
        go_loopw [5, 8] (fun o v wr' => ∃ k : Nat, k ≤ n ∧ v = .int .i64 k ∧ OwnS wr' w1.heap.size o (P ++ extB t k) ∧ Below w1.heap.size w1 wr') (fun _ v _ => n - (intOf v).toNat)
        case atStart => exact ⟨0, by omega, rfl, by simpa [extB] using ho, hbe⟩
        case round =>
          obtain ⟨k, hk, rfl, ho, hbe⟩ := hrel
          by_cases hkn : k < n
          · have hkni : (k : Int) < n := by omega
            have hcell2 := (hrl.later (Nat.le_refl _) hbe).at_ hlt
            obtain ⟨ad', t', had, _, hcell2, hlt2⟩ := hcell2
            obtain rfl : ad = ad' := by simpa using had
            obtain rfl : t = t' := by have := hlt2.out; rw [hlt'.out] at this; simpa using this
            obtain ⟨j, hj⟩ : ∃ j, k + 1 = j := ⟨_, rfl⟩
            have hji : (k : Int) + 1 = j := by omega
            have hj4 : (j : Int) ≤ 4 := by omega
            have hkj : k ≤ j := by omega
            have hone := abcd_one (i := k) (by omega) hj
            have hPL : (P ++ extB t k).length ≤ 1000000000 := by rw [List.length_append, extB_len]; omega
            have hts2 : t.size ≤ 3 := by omega
            have hN := Lib.hid (show P ++ extB t j = (P ++ extB t k) ++ [t ++ ⟨#[(97 + k).toUInt8]⟩] by rw [← hj, extB_succ, List.append_assoc])
            obtain ⟨y, hy⟩ : ∃ y : ByteArray, (⟨#[(97 + k).toUInt8]⟩ : ByteArray) = y := ⟨_, rfl⟩
            have hys : y.size ≤ 1 := by rw [← hy]; exact Nat.le_refl 1
            rw [hy] at hone hN
            obtain ⟨PK, hPK⟩ : ∃ PK, P ++ extB t k = PK := ⟨_, rfl⟩
            rw [hPK] at hPL hN ho
            clear had hcell hlt2 hj hy hPK hts
            go_wp2_with (fail)
            have hw64 : IntKind.i64.wrap (j : Int) = j := IntWalk.i64_in _ (by omega)
            have htsI : (t.size : Int) ≤ 8388608 := by omega
            have hysI : (y.size : Int) ≤ 8388608 := by omega
            have hadd : ∀ w', (Op.stringOp .add t y).run Try.prog w' = .ok (.string (t ++ y)) w' := fun w' => run_string_add w' t y htsI hysI
            have hsz2 := hbe.size
            have hadw : (ad.add i).block < wr.heap.size := by rw [block_of_add]; omega
            have hc3 : (wr.drew.alloc (.cells #[.string (t ++ y)] 9)).cell? (ad.add i) = some (.string t) := (World.cell?_alloc_lt wr.drew _ _ hadw).trans hcell2
            have hbe3 := (hbe.trans (below_drewN (Below.refl _ _) 1)).alloc (by show _ ≤ wr.heap.size; omega) (.cells #[.string (t ++ y)] 9)
            have hgeq := fun g hg => ho.ge (g := g) hg
            go_region_held3 (fun w' => w'.cell? (ad.add i) = some (.string t))
              (first | assumption | exact hcell2 | exact hc3)
              (first | (refine step_pushS rfl _ _ rfl rfl (ho.drew.none_ (World.grownBy_alloc wr.drew _ none)) wr.heap.size 1 (t ++ y) rfl (Blk.new wr.drew _ _) hPL (by show _ ≤ (wr.drew.heap.push _).size; simp; omega) ?_; intro g5 cap5 w8 hown8 hg8 hat8 hlt8
                        have hbe8 := hbe3.grown hg8 (by show _ ≤ (wr.drew.heap.push _).size; simp; omega) hgeq
                        have hS8 : w8.cell? (ad.add i) = some (.string t) := (World.cell?_of_block (hg8.block _ (by show _ < (wr.drew.heap.push _).size; simp; omega) (fun e => by have := hgeq _ e.symm; rw [block_of_add] at this; omega))).trans hc3))
            clear hw64
            go_wp2_with (fail)
            exact ⟨⟨j, by omega, rfl, by rw [hN.out]; simpa [OwnS] using hown8, hbe8⟩, by simp only [intOf]; omega⟩
          · have hkni : ¬ (k : Int) < n := by omega
            have hfull := Lib.hid (show P ++ extB t k = P ++ extB t n by rw [show k = n by omega])
            rw [hfull.out, ← hNext.out] at ho
            go_wp2_with (fail)
            go_roundw
            case rel => exact ⟨i + 1, by omega, by go_num, ho, hbe⟩
            case measure => simp only [intOf]; omega
      · have hlti : ¬ (i : Int) < l.length := by omega
        rw [List.take_of_length_le (by omega), hT.out] at ho
        go_wp2_with (fail)
        go_ret
        exact ⟨_, rfl, ho.rebase hb1.size, hb1.trans (hbe.mono hb1.size)⟩
end Go.Proofs.Ytdaaiockkbolbaa
