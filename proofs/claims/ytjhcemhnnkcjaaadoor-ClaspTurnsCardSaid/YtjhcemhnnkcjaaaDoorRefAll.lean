/- The texts RefP to RefTurns, joined by joinlist.py: their statements say what each proves. -/
import Derived.Test.YtjhcemhnnkcjaaaDoorNext
import Derived.Test.YtjhcemhnnkcjaaaDoorWay
import Derived.Test.YtjhcemhnnkcjaaaDoorTimes
import Derived.Test.YtjhcemhnnkcjaaaDoorTurnsP
import Derived.Test.YtjhcemhnnkcjaaaDoorProg
import Derived.Deep.QuietTactic
import Derived.BigQuiet
import Derived.Test.YtjhcemhnnkcjaaaDoorPush
import Derived.Test.YtjhcemhnnkcjaaaDoorMoved
import Derived.Test.YtjhcemhnnkcjaaaDoorCheck
import Derived.Test.YtjhcemhnnkcjaaaDoorWalked
import Derived.Test.YtjhcemhnnkcjaaaDoorApi2
import Derived.Test.YtjhcemhnnkcjaaaDoorMove
import Derived.Test.YtjhcemhnnkcjaaaDoorLeads
import Derived.Deep.CutRange
import Derived.Test.YtjhcemhnnkcjaaaDoorFar
import Derived.Deep.RegionWith
import Derived.Test.YtjhcemhnnkcjaaaDoorTogether
import Derived.Test.YtjhcemhnnkcjaaaDoorTurns
-- the text RefP
namespace Go.Proofs.YtjhcemhnnkcjaaaDoor
/-- how many rings are on -/
def cntS : List Int → Nat
  | [] => 0
  | x :: xs => x.toNat + cntS xs
theorem numS_cnt (xs : List Int) : numS xs % 2 = cntS xs % 2 := by
  induction xs with
  | nil => rfl
  | cons x xs ih => simp only [numS, cntS]; omega
theorem numS_cons (x : Int) (xs : List Int) : numS (x :: xs) = 2 * numS xs + cntS (x :: xs) % 2 := by
  have := numS_cnt xs
  simp only [numS, cntS]; omega
theorem cnt_le {xs : List Int} (h : bin xs) : cntS xs ≤ xs.length := by
  induction xs with
  | nil => simp [cntS]
  | cons x xs ih =>
    obtain ⟨hx, h'⟩ := bin_cons h
    have := ih h'
    simp only [cntS, List.length_cons]
    rcases hx with rfl | rfl <;> simp <;> omega
theorem drop_at {xs : List Int} {k : Nat} {x : Int} (h : xs[k]? = some x) : xs.drop k = x :: xs.drop (k + 1) := by
  obtain ⟨hl, hx⟩ := List.getElem?_eq_some_iff.1 h
  rw [List.drop_eq_getElem_cons hl, hx]
theorem bin_drop {xs : List Int} (h : bin xs) (k : Nat) : bin (xs.drop k) := fun x hx => h x (List.mem_of_mem_drop hx)
theorem num_step {xs : List Int} {k : Nat} {x : Int} (h : xs[k]? = some x) : cntS (xs.drop k) = x.toNat + cntS (xs.drop (k + 1)) ∧ numS (xs.drop k) = 2 * numS (xs.drop (k + 1)) + cntS (xs.drop k) % 2 := by
  rw [drop_at h]
  exact ⟨rfl, numS_cons _ _⟩
theorem num_drop_lt {xs : List Int} (h : bin xs) (h16 : xs.length ≤ 16) (k : Nat) : cntS (xs.drop k) ≤ 16 ∧ numS (xs.drop k) < 65536 := by
  have h1 := cnt_le (bin_drop h k)
  have h2 := numS_lt (xs.drop k)
  rw [List.length_drop] at h1 h2
  have h3 : 2 ^ (xs.length - k) ≤ 2 ^ 16 := Nat.pow_le_pow_right (by omega) (by omega)
  have h4 : (2 : Nat) ^ 16 = 65536 := rfl
  exact ⟨by omega, by omega⟩

/-- the ring that leads nearer: the first one that can be moved and does not lead farther -/
theorem next_stop {xs : List Int} {b : Nat} (hb : bin xs) (hne : numS xs ≠ b) (hlt : b < 2 ^ xs.length) :
    nextS (numS xs) b < xs.length ∧ canS xs (nextS (numS xs) b) = true ∧ numS (moveS xs (nextS (numS xs) b)) = stepTo (numS xs) b ∧
    ∀ k, k < xs.length → canS xs k = true → k ≠ nextS (numS xs) b → distS (numS xs) b < distS (numS (moveS xs k)) b := by
  have hl := numS_lt xs
  unfold nextS stepTo
  by_cases h : numS xs < b
  · obtain ⟨c1, c2, c3⟩ := line_up xs hb (by omega)
    simp only [if_pos h]
    refine ⟨c2, c1, c3, fun k hk hc hK => ?_⟩
    rcases line_step xs hb k hk hc with ⟨_, e⟩ | ⟨e1, e2⟩
    · exact absurd e hK
    · unfold distS; omega
  · obtain ⟨c1, c2, c3⟩ := line_down xs hb (by omega)
    simp only [if_neg h]
    refine ⟨c2, c1, by omega, fun k hk hc hK => ?_⟩
    rcases line_step xs hb k hk hc with ⟨e1, _⟩ | ⟨_, e⟩
    · unfold distS; omega
    · exact absurd e hK
theorem step_near {a b : Nat} (h : a ≠ b) : distS (stepTo a b) b + 1 = distS a b := by unfold distS stepTo; split <;> omega

/-- one move more on the line: just one ring's digit is another one -/
theorem times_at {lo n k : Nat} (h : lo ≤ n) :
    ((n + 1) / 2 ^ k - lo / 2 ^ k) - ((n + 1) / 2 ^ (k + 1) - lo / 2 ^ (k + 1)) = ((n / 2 ^ k - lo / 2 ^ k) - (n / 2 ^ (k + 1) - lo / 2 ^ (k + 1))) + (if (n / 2 ^ k + n / 2 ^ (k + 1)) % 2 = ((n + 1) / 2 ^ k + (n + 1) / 2 ^ (k + 1)) % 2 then 0 else 1) := by
  have e : ∀ x, x / 2 ^ (k + 1) = x / 2 ^ k / 2 := fun x => by rw [Nat.pow_succ, Nat.div_div_eq_div_mul]
  have h1 : lo / 2 ^ k ≤ n / 2 ^ k := Nat.div_le_div_right h
  have hs : (n + 1) / 2 ^ k = n / 2 ^ k ∨ (n + 1) / 2 ^ k = n / 2 ^ k + 1 := by
    rw [Nat.succ_div]; split
    · exact Or.inr rfl
    · exact Or.inl rfl
  simp only [e]
  generalize lo / 2 ^ k = L at *
  generalize n / 2 ^ k = X at *
  generalize (n + 1) / 2 ^ k = Y at *
  rcases hs with rfl | rfl <;> split <;> omega
theorem timesN_lo (n lo : Nat) : timesN n lo lo = List.replicate n 0 := by
  apply List.ext_getElem?
  intro k
  by_cases hk : k < n
  · rw [timesN_at hk, List.getElem?_replicate, if_pos hk]; simp
  · rw [List.getElem?_eq_none (by rw [timesN_length]; omega), List.getElem?_eq_none (by simp; omega)]
/-- the counts while the rings of one move are gone through -/
def timesM (r lo n k : Nat) : List Int := (timesN r lo (n + 1)).take k ++ (timesN r lo n).drop k
theorem timesM_zero (r lo n : Nat) : timesM r lo n 0 = timesN r lo n := by simp [timesM]
theorem timesM_end (r lo n : Nat) : timesM r lo n r = timesN r lo (n + 1) := by
  unfold timesM
  rw [List.take_of_length_le (by rw [timesN_length]; exact Nat.le_refl _), List.drop_of_length_le (by rw [timesN_length]; exact Nat.le_refl _), List.append_nil]
theorem timesM_length (r lo n k : Nat) : (timesM r lo n k).length = r := by
  simp only [timesM, List.length_append, List.length_take, List.length_drop, timesN_length]; omega
theorem timesM_at {r lo n k : Nat} (hk : k < r) : (timesM r lo n k)[k]? = (timesN r lo n)[k]? := by
  unfold timesM
  rw [List.getElem?_append_right (by rw [List.length_take]; omega), List.length_take, timesN_length, Nat.min_eq_left (by omega), Nat.sub_self, List.getElem?_drop, Nat.add_zero]
theorem timesM_set {r lo n k : Nat} (hk : k < r) {x : Int} (hx : (timesN r lo (n + 1))[k]? = some x) : (timesM r lo n k).set k x = timesM r lo n (k + 1) := by
  have hd : (timesN r lo n).drop k = ((timesN r lo n)[k]'(by rw [timesN_length]; exact hk)) :: (timesN r lo n).drop (k + 1) := List.drop_eq_getElem_cons _
  unfold timesM
  rw [List.set_append_right _ _ (by rw [List.length_take]; omega), List.length_take, timesN_length, Nat.min_eq_left (by omega), Nat.sub_self, hd, List.set_cons_zero, List.take_add_one, hx]
  simp
theorem timesM_skip {r lo n k : Nat} (hk : k < r) (h : (timesN r lo (n + 1))[k]? = (timesN r lo n)[k]?) : timesM r lo n (k + 1) = timesM r lo n k := by
  obtain ⟨x, hx⟩ : ∃ x, (timesN r lo (n + 1))[k]? = some x := ⟨_, timesN_at hk⟩
  rw [← timesM_set hk hx]
  have h2 := timesM_at (lo := lo) (n := n) hk
  rw [← h, hx] at h2
  obtain ⟨hl, e⟩ := List.getElem?_eq_some_iff.1 h2
  rw [← e, List.set_getElem_self]

/-! pairs -/
def opensN (n m : Nat) : Bool := decide (n ≤ m) && decide ((m - n) % 2 = 0)
theorem few_first (a b : Nat) : (opensN a ((fewN a b + 1) / 2) && opensN b (fewN a b / 2)) = true ∧ ∀ m, m < fewN a b → (opensN a ((m + 1) / 2) && opensN b (m / 2)) = false := by
  unfold fewN opensN
  constructor
  · split <;> simp <;> omega
  · intro m hm
    split at hm
    · rw [Bool.eq_false_iff]; simp; omega
    · rw [Bool.eq_false_iff]; simp; omega
/-- whether the next move leads up, with so many moves of this clasp left after it -/
def upD (R n t : Nat) : Bool := decide (n < 2 ^ R - 1) && decide (n + 1 ≤ t) && (decide (n = 0) || decide (tz (n + 1) < tz n))
theorem upC_upD (R n l : Nat) : upC R n l = upD R n (l / 2) := rfl
def openD (R n t : Nat) : Nat := if upD R n t then tz (n + 1) else tz n
def openTo (R n t : Nat) : Nat := if upD R n t then n + 1 else n - 1
def openGo (R : Nat) : Nat → Nat → List Int
  | 0, _ => []
  | t + 1, n => (openD R n t : Int) :: openGo R t (openTo R n t)
theorem openGo_length (R t n : Nat) : (openGo R t n).length = t := by
  induction t generalizing n with
  | zero => rfl
  | succ t ih => simp [openGo, ih]
theorem turnsGo_at (r : Nat → Nat) (l s : Nat) (hs : s < 2) (a : Nat → Nat) (i : Nat) :
    (turnsGo r l s a)[i]? = if i % 2 = 0 then (openGo (r s) ((l + 1) / 2) (a s))[i / 2]? else (openGo (r (1 - s)) (l / 2) (a (1 - s)))[i / 2]? := by
  induction l generalizing s a i with
  | zero => simp [turnsGo, openGo]
  | succ l ih =>
    have hss : 1 - (1 - s) = s := by omega
    have hne : 1 - s ≠ s := by omega
    have key : ∀ (z : Nat) (a' : Nat → Nat), a' (1 - s) = a (1 - s) → (openD (r s) (a s) (l / 2) = z) → openTo (r s) (a s) (l / 2) = a' s → ((z : Int) :: turnsGo r l (1 - s) a')[i]? = if i % 2 = 0 then (openGo (r s) ((l + 1 + 1) / 2) (a s))[i / 2]? else (openGo (r (1 - s)) ((l + 1) / 2) (a (1 - s)))[i / 2]? := by
      intro z a' h1 h2 h3
      rw [show (l + 1 + 1) / 2 = l / 2 + 1 by omega, openGo, h2, h3]
      cases i with
      | zero => simp
      | succ i =>
        rw [List.getElem?_cons_succ, ih (1 - s) (by omega) a' i, hss, h1]
        rcases Nat.mod_two_eq_zero_or_one i with e | e
        · rw [if_pos e, if_neg (by omega), show (i + 1) / 2 = i / 2 by omega]
        · rw [if_neg (by omega), if_pos (by omega), show (i + 1) / 2 = i / 2 + 1 by omega, List.getElem?_cons_succ]
    cases hu : upC (r s) (a s) l with
    | true =>
      rw [turnsGo_up hu]
      exact key _ _ (by rw [upd, if_neg hne]) (by rw [openD, ← upC_upD, hu]; rfl) (by rw [openTo, ← upC_upD, hu, upd]; simp)
    | false =>
      rw [turnsGo_down hu]
      exact key _ _ (by rw [upd, if_neg hne]) (by rw [openD, ← upC_upD, hu]; rfl) (by rw [openTo, ← upC_upD, hu, upd]; simp)
/-- the ring of an opening: the first one that can be moved to where the clasp can still be opened in so many moves -/
theorem open_stop {xs : List Int} {t : Nat} (hb : bin xs) (h1 : 1 ≤ xs.length) (ho : opensN (numS xs) (t + 1) = true) :
    openD xs.length (numS xs) t < xs.length ∧ canS xs (openD xs.length (numS xs) t) = true ∧ numS (moveS xs (openD xs.length (numS xs) t)) = openTo xs.length (numS xs) t ∧ opensN (openTo xs.length (numS xs) t) t = true ∧
    ∀ k, k < openD xs.length (numS xs) t → canS xs k = true → opensN (numS (moveS xs k)) t = false := by
  have hl := numS_lt xs
  have h2 : 2 ≤ 2 ^ xs.length := two_R h1
  have ho' : numS xs ≤ t + 1 ∧ (t + 1 - numS xs) % 2 = 0 := by simpa [opensN] using ho
  have up := line_up xs hb
  have dn := line_down xs hb
  have st := line_step xs hb
  unfold openD openTo
  cases hu : upD xs.length (numS xs) t with
  | true =>
    have hu' : (numS xs < 2 ^ xs.length - 1 ∧ numS xs + 1 ≤ t) ∧ (numS xs = 0 ∨ tz (numS xs + 1) < tz (numS xs)) := by simpa [upD] using hu
    obtain ⟨c1, c2, c3⟩ := up (by omega)
    simp only [if_true]
    refine ⟨c2, c1, c3, by simp [opensN]; omega, fun k hk hc => ?_⟩
    rcases st k (by omega) hc with ⟨_, e⟩ | ⟨e1, e2⟩
    · omega
    · exfalso; omega
  | false =>
    have hu' : ¬ ((numS xs < 2 ^ xs.length - 1 ∧ numS xs + 1 ≤ t) ∧ (numS xs = 0 ∨ tz (numS xs + 1) < tz (numS xs))) := by
      intro h
      have : upD xs.length (numS xs) t = true := by simpa [upD] using h
      rw [hu] at this; cases this
    have hpos : 0 < numS xs := by omega
    obtain ⟨c1, c2, c3⟩ := dn hpos
    simp only [Bool.false_eq_true, if_false]
    refine ⟨c2, c1, by omega, by simp [opensN]; omega, fun k hk hc => ?_⟩
    rcases st k (by omega) hc with ⟨e1, e2⟩ | ⟨e1, e2⟩
    · rw [Bool.eq_false_iff]
      simp only [opensN, ne_eq, Bool.and_eq_true, decide_eq_true_eq, not_and]
      intro h3
      rw [e1] at h3
      exfalso
      have h4 := numS_lt (moveS xs k)
      rw [moveS_length] at h4
      exact hu' ⟨⟨by omega, h3⟩, Or.inr (by omega)⟩
    · omega
end Go.Proofs.YtjhcemhnnkcjaaaDoor
-- the text RefNum
namespace Go.Proofs.YtjhcemhnnkcjaaaDoor
open Go.RowKit
set_option maxHeartbeats 400000 in
theorem refNumber_any (A : Option Addr) (n c : Nat) (xs : List Int) (w : World) (BL : Nat) (ha : RInts w BL A n xs) (hn : n ≤ 16) (hb : bin xs) :
    Calls Tryd.prog 51 #[.slice A n c] w fun e w' => e = .returned (.int .i64 (numS xs : Nat)) ∧ w' = w := by
  have hl := ha.len
  have hB := Lib.hid hb
  have hL := Lib.hid hl
  have hd := fun j => num_drop_lt hb (by omega : xs.length ≤ 16) j
  have hs := fun j x (h : xs[j]? = some x) => num_step h
  clear hb
  go_enter Tryd.func51, Tryd.ntmps51
  go_wp2
  go_loop [5, 3, 4] (fun k v on => ∃ j : Nat, j ≤ n ∧ k = .int .i64 ((j : Int) - 1) ∧ v = .int .i64 (numS (xs.drop j) : Nat) ∧ on = .int .i64 (cntS (xs.drop j) : Nat)) (fun k _ _ => (intOf k + 1).toNat)
  case atStart => exact ⟨n, by omega, rfl, by rw [List.drop_of_length_le (by omega)]; rfl, by rw [List.drop_of_length_le (by omega)]; rfl⟩
  case round =>
    obtain ⟨j, hj, rfl, rfl, rfl⟩ := hrel
    cases j with
    | zero =>
      rw [List.drop_zero]
      go_wp2
      go_ret
      exact ⟨rfl, rfl⟩
    | succ i =>
      obtain ⟨ad, x, rfl, _, h1, hx⟩ := ha.at_ (k := i) (by omega)
      have hx1 := hs i x hx.out
      have hd0 := hd i
      have hd1 := hd (i + 1)
      have hbx := hB.out x (List.mem_of_getElem? hx.out)
      clear hs hd
      obtain ⟨N1, hN1⟩ : ∃ N, N = numS (xs.drop (i + 1)) := ⟨_, rfl⟩
      obtain ⟨C1, hC1⟩ : ∃ N, N = cntS (xs.drop (i + 1)) := ⟨_, rfl⟩
      obtain ⟨N0, hN0⟩ : ∃ N, N = numS (xs.drop i) := ⟨_, rfl⟩
      obtain ⟨C0, hC0⟩ : ∃ N, N = cntS (xs.drop i) := ⟨_, rfl⟩
      rw [← hN1, ← hC1, ← hN0, ← hC0] at hx1
      rw [← hN0, ← hC0] at hd0
      rw [← hN1, ← hC1] at hd1
      rw [← hN1, ← hC1]
      have e1 : (C1 : Int) + x = (C0 : Int) := by rcases hbx with rfl | rfl <;> simp at hx1 <;> omega
      have e2 : ((C0 : Nat) : Int).tmod 2 = ((C0 % 2 : Nat) : Int) := by rw [Int.tmod_eq_emod_of_nonneg (by omega)]; omega
      have e3 : 2 * (N1 : Int) + ((C0 % 2 : Nat) : Int) = (N0 : Int) := by omega
      have e4 : ((i + 1 : Nat) : Int) - 1 = (i : Int) := by omega
      rw [e4]
      have hm : C0 % 2 < 2 := by omega
      clear hx1 hbx e4
      have hN0' := Lib.hid hN0
      have hC0' := Lib.hid hC0
      clear hN0 hC0 hN1 hC1
      go_wp2
      go_round
      case rel => exact ⟨i, by omega, by go_num, by rw [← hN0'.out]; congr 1, by rw [← hC0'.out]⟩
      case measure => simp [intOf]
theorem place_at {n k : Nat} (h : n < 65536) : ((n : Int) / 2 ^ k + (n : Int) / 2 ^ (k + 1)).tmod 2 = (((n / 2 ^ k + n / 2 ^ (k + 1)) % 2 : Nat) : Int) ∧ IntKind.i64.wrap ((n : Int) / 2 ^ k + (n : Int) / 2 ^ (k + 1)) = (n : Int) / 2 ^ k + (n : Int) / 2 ^ (k + 1) := by
  have e1 : (n : Int) / 2 ^ k = ((n / 2 ^ k : Nat) : Int) := by simp
  have e2 : (n : Int) / 2 ^ (k + 1) = ((n / 2 ^ (k + 1) : Nat) : Int) := by simp
  have h1 : n / 2 ^ k ≤ n := Nat.div_le_self _ _
  have h2 : n / 2 ^ (k + 1) ≤ n := Nat.div_le_self _ _
  rw [e1, e2]
  generalize n / 2 ^ k = X at *
  generalize n / 2 ^ (k + 1) = Y at *
  exact ⟨by rw [Int.tmod_eq_emod_of_nonneg (by omega)]; omega, by rw [IntWalk.i64_in _ (by omega)]⟩
theorem infoIr : (Tryd.prog.info? 3).map (fun i => (i.zero, i.size, i.bytes)) = some (some (.int .i64 0), 1, 8) := by kernel_rfl
set_option maxHeartbeats 400000 in
theorem refPlace_blk (r n : Nat) (hr : r ≤ 16) (hr0 : r ≠ 0) (hn : n < 65536) (w : World) :
    Calls Tryd.prog 54 #[.int .i64 r, .int .i64 n] w fun e w' => ∃ g, e = .returned (.slice (some ⟨g, 0, none⟩) r r) ∧ Blk w' g 3 (intArr (grayS r n)) ∧ w.heap.size ≤ g ∧ Below w.heap.size w w' := by
  have hmk := run_make_row' (P := Tryd.prog) 22 3 (.int .i64 0) 8 Tryd.underlying22 infoIr rfl .i64 .i64 r (by omega) (by omega)
  have hL := Lib.hid (grayS_length r n)
  go_enter Tryd.func54, Tryd.ntmps54
  go_wp2_with (fail)
  rw [intArr_made]
  go_loopw [6] (fun i wr => ∃ k : Nat, k ≤ r ∧ i = .int .i64 k ∧ Blk wr w.heap.size 3 (intArr (fillI r (grayS r n) k)) ∧ Below w.heap.size w wr) (fun i _ => r - (intOf i).toNat)
  case atStart => exact ⟨0, by omega, rfl, by rw [fillI_zero]; exact Blk.new _ _ _, (Below.refl _ _).alloc (by simp) _⟩
  case round =>
    obtain ⟨k, hk, rfl, hB1, hBe⟩ := hrel
    by_cases hlt : k < r
    · have hc1 : wr.cell? ⟨w.heap.size, k, none⟩ = some (.int .i64 0) := by rw [hB1.cell, intArr_at, fillI_at hL.out hlt]; rfl
      have hfz := hB1.frozen k
      obtain ⟨p1, p2⟩ := place_at (k := k) hn
      have hN := hB1.set_ k (.int .i64 (((n / 2 ^ k + n / 2 ^ (k + 1)) % 2 : Nat) : Int))
      rw [intArr_set, fillI_set hL.out (grayS_at r n k hlt)] at hN
      have hNe := hBe.setCell (p := ⟨w.heap.size, k, none⟩) (by simp) (.int .i64 (((n / 2 ^ k + n / 2 ^ (k + 1)) % 2 : Nat) : Int))
      obtain ⟨D, hD⟩ : ∃ D, D = (n / 2 ^ k + n / 2 ^ (k + 1)) % 2 := ⟨_, rfl⟩
      rw [← hD] at p1 hN hNe
      clear hD
      go_wp2_with (fail)
      go_region
      go_wp2_with (fail)
      go_roundw
      case rel => exact ⟨k + 1, by omega, by go_num, hN, below_drewN hNe 1⟩
      case measure => simp [intOf]; omega
    · obtain rfl : k = r := by omega
      rw [fillI_end hL.out] at hB1
      go_wp2_with (fail)
      go_ret
      exact ⟨_, rfl, hB1, Nat.le_refl _, hBe⟩
theorem refPlace_any (r n : Nat) (hr : r ≤ 16) (hr0 : r ≠ 0) (hn : n < 65536) (w : World) :
    Calls Tryd.prog 54 #[.int .i64 r, .int .i64 n] w fun e w' => ∃ g, e = .returned (.slice (some ⟨g, 0, none⟩) r r) ∧ RInts w' w'.heap.size (some ⟨g, 0, none⟩) r (grayS r n) ∧ Below w.heap.size w w' :=
  (refPlace_blk r n hr hr0 hn w).mono fun _ _ ⟨g, h1, h2, _, h3⟩ => ⟨g, h1, RInts.of_blk h2 (grayS_length _ _), h3⟩
theorem canS_start {xs : List Int} {k r : Nat} (h : ∀ j, j < k → (xs[j]? = some 1 ↔ j + 1 = r)) (hk : r ≤ k) : canS xs r = true := by
  cases r with
  | zero => cases xs <;> rfl
  | succ r =>
    rw [canS_first]
    exact ⟨fun j hj e => by have := (h j (by omega)).1 e; omega, (h r (by omega)).2 rfl⟩
theorem canS_stop {xs : List Int} {k r : Nat} (hk : k < r) (h : ¬ (xs[k]? = some 1 ↔ k + 1 = r)) : canS xs r = false := by
  cases r with
  | zero => omega
  | succ r =>
    rw [Bool.eq_false_iff]
    intro hc
    obtain ⟨h1, h2⟩ := (canS_first xs r).1 hc
    rcases Nat.lt_or_ge k r with hl | hg
    · exact h ⟨fun e => absurd e (h1 k hl), fun e => by omega⟩
    · obtain rfl : k = r := by omega
      exact h ⟨fun _ => rfl, fun _ => h2⟩
set_option maxHeartbeats 400000 in
theorem refCan_any (A : Option Addr) (n c : Nat) (r : Nat) (xs : List Int) (w : World) (BL : Nat) (ha : RInts w BL A n xs) (hn : n ≤ 16) (hr : r ≤ n) :
    Calls Tryd.prog 71 #[.slice A n c, .int .i64 r] w fun e w' => e = .returned (.bool (canS xs r)) ∧ w' = w := by
  go_enter Tryd.func71, Tryd.ntmps71
  go_wp2
  go_loop [5] (fun i => ∃ k : Nat, k ≤ r ∧ i = .int .i64 k ∧ Hid (∀ j, j < k → (xs[j]? = some 1 ↔ j + 1 = r))) (fun i => r - (intOf i).toNat)
  case atStart => exact ⟨0, by omega, rfl, Lib.hid (fun j hj => by omega)⟩
  case round =>
    obtain ⟨k, hk, rfl, hI⟩ := hrel
    by_cases hlt : k < r
    · obtain ⟨ad, x, rfl, _, h1, hx⟩ := ha.at_ (k := k) (by omega)
      have hxo : (xs[k]? = some 1) ↔ (x = 1) := by rw [hx.out]; simp
      by_cases hg : (x = 1 ↔ k + 1 = r)
      · have hS : Hid (∀ j, j < k + 1 → (xs[j]? = some 1 ↔ j + 1 = r)) := Lib.hid (fun j hj => by
          by_cases e : j = k
          · subst e; rw [hxo]; exact hg
          · exact hI.out j (by omega))
        have hq : (x == 1) = ((k : Int) == (r : Int) - 1) := by
          rw [Bool.eq_iff_iff]; simp; rw [hg]; omega
        by_cases hx1 : x = 1
        · subst hx1
          have h2 : ((k : Int) == (r : Int) - 1) = true := by have := hg.1 rfl; simp; omega
          clear hq hg hxo
          go_wp2
          go_round
          case rel => exact ⟨k + 1, by omega, by go_num, hS⟩
          case measure => simp [intOf]; omega
        · have h1' : (x == 1) = false := by simpa using hx1
          have h2 : ((k : Int) == (r : Int) - 1) = false := by rw [← hq, h1']
          clear hq hg hxo hx1
          go_wp2
          go_round
          case rel => exact ⟨k + 1, by omega, by go_num, hS⟩
          case measure => simp [intOf]; omega
      · have hC := Lib.hid (canS_stop hlt (fun h => hg (hxo.symm.trans h)))
        by_cases hx1 : x = 1
        · subst hx1
          have h2 : ((k : Int) == (r : Int) - 1) = false := by simp; intro h; apply hg; simp; omega
          clear hg hxo
          go_wp2
          go_ret
          exact ⟨by rw [hC.out]; rfl, rfl⟩
        · have h1' : (x == 1) = false := by simpa using hx1
          have h2 : ((k : Int) == (r : Int) - 1) = true := by
            have : k + 1 = r := by
              apply Classical.byContradiction
              intro h; exact hg ⟨fun e => absurd e hx1, fun e => absurd e h⟩
            simp; omega
          clear hg hxo hx1
          go_wp2
          go_ret
          exact ⟨by rw [hC.out]; rfl, rfl⟩
    · have hC := Lib.hid (canS_start hI.out (by omega))
      go_wp2
      go_ret
      exact ⟨by rw [hC.out]; rfl, rfl⟩
end Go.Proofs.YtjhcemhnnkcjaaaDoor
-- the text RefMoved
namespace Go.Proofs.YtjhcemhnnkcjaaaDoor
open Go.RowKit
/-- a list that a call hands back -/
def RetS (n : Nat) (ys : List Int) (w : World) (e : Ending) (w' : World) : Prop := ∃ A c, e = .returned (.slice A n c) ∧ RInts w' w'.heap.size A n ys ∧ Below w.heap.size w w'
/-- the same, in memory that the call has made -/
def RetF (n : Nat) (ys : List Int) (w : World) (e : Ending) (w' : World) : Prop := ∃ A c, e = .returned (.slice A n c) ∧ RInts w' w'.heap.size A n ys ∧ Below w.heap.size w w' ∧ Hid (∀ ad : Addr, A = some ad → w.heap.size ≤ ad.block)
theorem RetF.old {n : Nat} {ys : List Int} {w w' : World} {e : Ending} (h : RetF n ys w e w') : RetS n ys w e w' := by
  obtain ⟨A, c, h1, h2, h3, _⟩ := h
  exact ⟨A, c, h1, h2, h3⟩
theorem RInts.grownNe {w w' : World} {B n : Nat} {A : Option Addr} {xs : List Int} {row : Option Nat} (h : RInts w B A n xs) (hg : w.grownBy w' row) (hB : B ≤ w.heap.size) (hne : ∀ ad : Addr, A = some ad → row ≠ some ad.block) : RInts w' B A n xs :=
  ⟨h.1, fun hn => by
    obtain ⟨ad, e, hb, hc⟩ := h.2 hn
    refine ⟨ad, e, hb, fun j u hu => (World.cell?_of_block (hg.block _ ?_ ?_)).trans (hc j u hu)⟩
    · rw [block_of_add]; omega
    · rw [block_of_add]; exact fun e' => hne ad e e'.symm⟩
theorem OwnI.lit0 (w : World) {base : Nat} (hb : base ≤ w.heap.size) : OwnI (w.alloc (.cells #[] 3)) base (.slice (some ⟨w.heap.size, 0, none⟩) 0 0) [] := World.ownsRow_lit w #[] 0 hb (by decide) rfl
theorem wpList_pushAll {w : World} {base : Nat} {v : Value} {xs : List Int} {ops : Array Oper} {rest : List Oper} {o : Oper} {a : Act} {Q : Exit → Act → World → Prop} (hgd : o.guard = none) (s x : Operand)
    (ho : o.op = .call { callee := .builtin .append, args := #[s, x], argTypes := #[22, 22] }) (hs : a.eval s = v) (hown : OwnI w base v xs)
    (ad : Addr) (m c BL : Nat) (ys : List Int) (hx : a.eval x = .slice (some ad) m c) (hY : RInts w BL (some ad) m ys) (hm : 0 < m) (hlen : xs.length + m ≤ 1000000000) (hbase : base ≤ w.heap.size) (N : Nat) (hN : xs.length + m = N)
    (h : ∀ (g cap : Nat) (w' : World), OwnI w' base (.slice (some ⟨g, 0, none⟩) N cap) (xs ++ ys) → w.grownBy w' v.ownBlock → (v.ownBlock = some g ∨ g = w.heap.size) → g < w'.heap.size → wpList Tryd.prog ops Q rest (a.put o.dst (.slice (some ⟨g, 0, none⟩) N cap)) w') : wpList Tryd.prog ops Q (o :: rest) a w := by
  subst hN
  obtain ⟨i0, hi0, hz0, hz1, hz2⟩ := info_parts infoInt
  obtain ⟨ad', e, _, hc⟩ := hY.2 hm
  obtain rfl : ad = ad' := by injection e
  refine wpList_append_lies w hgd s x 22 ho base 3 i0 (.int .i64 0) 1 8 Tryd.underlying22 hi0 hz0 hz1 hz2 rfl (by decide) v xs.length (ints xs) hs hown ad m c (ints ys) hx hY.1
    hc (by simp [ints, Value.oneCell']) hm (by simp only [maxLen]; omega) (by omega) hbase _ rfl ?_
  intro g cap w' hown' hgr hat hlt
  refine h g cap w' ?_ hgr hat hlt
  unfold OwnI
  rw [ints_append, List.length_append, hY.len]
  exact hown'
theorem OwnI.stored {w : World} {base g cap n : Nat} {xs : List Int} (h : OwnI w base (.slice (some ⟨g, 0, none⟩) n cap) xs) (hn : xs.length = n) (k : Nat) (y : Int) : OwnI (w.setCell ⟨g, k, none⟩ (.int .i64 y)) base (.slice (some ⟨g, 0, none⟩) n cap) (xs.set k y) ∧ w.grownBy (w.setCell ⟨g, k, none⟩ (.int .i64 y)) (some g) := by
  subst hn
  obtain ⟨h1, h2⟩ := World.ownsRow.stored h k (.int .i64 y)
  refine ⟨?_, h2⟩
  unfold OwnI
  rw [List.length_set, ints, List.map_set]
  exact h1
theorem OwnI.cell {w : World} {base g cap n k : Nat} {xs : List Int} (h : OwnI w base (.slice (some ⟨g, 0, none⟩) n cap) xs) (hn : xs.length = n) {x : Int} (hx : xs[k]? = some x) : w.cell? ⟨g, k, none⟩ = some (.int .i64 x) ∧ w.frozen? ⟨g, k, none⟩ = false := by
  subst hn
  have hk := (List.getElem?_eq_some_iff.1 hx).1
  refine ⟨?_, World.ownsRow.frozenAt h k⟩
  rw [World.ownsRow.cellAt h k (by omega)]
  simp [ints, hx]
theorem moveS_set {xs : List Int} {k : Nat} {x : Int} (h : xs[k]? = some x) : xs.set k (1 - x) = moveS xs k := by simp [moveS, h]
set_option maxHeartbeats 400000 in
theorem refMoved_new (A : Option Addr) (n c k : Nat) (xs : List Int) (w : World) (ha : RInts w w.heap.size A n xs) (hn : n ≤ 16) (hk : k < n) (hb : bin xs) :
    Calls Tryd.prog 61 #[.slice A n c, .int .i64 k] w (RetF n (moveS xs k) w) := by
  obtain ⟨ad, hA, -⟩ := ha.2 (by omega)
  subst hA
  have hL := Lib.hid ha.len
  obtain ⟨x, hx⟩ : ∃ x, xs[k]? = some x := ⟨xs[k]'(by rw [hL.out]; exact hk), List.getElem?_eq_getElem _⟩
  have hX := Lib.hid hx
  have hbx : 0 ≤ x ∧ x ≤ 1 := by have := hb x (List.mem_of_getElem? hx); omega
  clear hx hb
  go_enter Tryd.func61, Tryd.ntmps61
  go_wp2_with (first
    | (at_builtin
       refine wpList_pushAll rfl _ _ rfl rfl (OwnI.lit0 w (Nat.le_refl _)) ad n c w.heap.size xs rfl (ha.below ((Below.refl _ _).alloc (Nat.le_refl _) _)) (by omega) (by simp; omega) (by simp) n (by simp) ?_
       intro g cap w1 hown hg hat hlt
       rw [List.nil_append] at hown
       obtain ⟨hc0, hf0⟩ := hown.cell hL.out hX.out
       obtain ⟨hown2, hg2⟩ := hown.stored hL.out k (1 - x)
       have hbe := ((Below.refl _ w).alloc (Nat.le_refl _) _).grown hg (by simp) (fun _ e => (OwnI.lit0 w (Nat.le_refl _)).ge e)
       have hge : w.heap.size ≤ g := hown.ge rfl
       have hbe2 := below_some hbe hg2 hbe.size hge
       rw [moveS_set hX.out] at hown2
       clear hg hat hg2 hbe))
  go_ret
  obtain ⟨A2, c2, hv, hr⟩ := hown2.reads
  rw [moveS_length, hL.out] at hv hr
  injection hv with h1 _ h3
  refine ⟨_, _, rfl, by rw [h1]; exact hr, hbe2, Lib.hid (fun ad e => ?_)⟩
  injection e with e
  subst e
  exact hge
theorem refMoved_any (A : Option Addr) (n c k : Nat) (xs : List Int) (w : World) (ha : RInts w w.heap.size A n xs) (hn : n ≤ 16) (hk : k < n) (hb : bin xs) :
    Calls Tryd.prog 61 #[.slice A n c, .int .i64 k] w (RetS n (moveS xs k) w) := (refMoved_new A n c k xs w ha hn hk hb).mono fun _ _ h => h.old
set_option maxHeartbeats 400000 in
theorem refStep_any (A : Option Addr) (n c : Nat) (r : Int) (xs : List Int) (w : World) (BL : Nat) (ha : RInts w BL A n xs) (hn : n ≤ 16) :
    Calls Tryd.prog 63 #[.slice A n c, .int .i64 r] w fun e w' => e = .returned (.int .i64 (stepE xs r)) ∧ w' = w := by
  have hL := ha.len
  by_cases h1 : r < 0
  · have hS := Lib.hid (stepE_neg (xs := xs) h1)
    go_enter Tryd.func63, Tryd.ntmps63
    go_wp2_with (fail)
    go_ret
    exact ⟨by rw [hS.out]; rfl, rfl⟩
  by_cases h2 : (n : Int) ≤ r
  · have hS := Lib.hid (stepE_big (xs := xs) (r := r) (by rw [hL]; exact h2))
    go_enter Tryd.func63, Tryd.ntmps63
    go_wp2_with (fail)
    go_ret
    exact ⟨by rw [hS.out]; rfl, rfl⟩
  obtain ⟨k, rfl⟩ : ∃ k : Nat, r = k := ⟨r.toNat, by omega⟩
  have hk : k < n := by omega
  have hS := Lib.hid (stepE_in (xs := xs) (k := k) (by omega))
  cases hc : canS xs k with
  | true =>
    rw [hc] at hS
    have hC := Lib.hid hc
    clear hc
    go_enter Tryd.func63, Tryd.ntmps63
    go_wp2_with (first
      | (go_at_call 71
         refine (refCan_any A n c k xs w BL ha hn (by omega)).mono ?_
         rintro e w1 ⟨rfl, rfl⟩
         rw [hC.out]))
    go_ret
    exact ⟨by rw [hS.out]; rfl, rfl⟩
  | false =>
    rw [hc] at hS
    have hC := Lib.hid hc
    clear hc
    go_enter Tryd.func63, Tryd.ntmps63
    go_wp2_with (first
      | (go_at_call 71
         refine (refCan_any A n c k xs w BL ha hn (by omega)).mono ?_
         rintro e w1 ⟨rfl, rfl⟩
         rw [hC.out]))
    go_ret
    exact ⟨by rw [hS.out]; rfl, rfl⟩
end Go.Proofs.YtjhcemhnnkcjaaaDoor
-- the text RefNext
namespace Go.Proofs.YtjhcemhnnkcjaaaDoor
open Go.RowKit
set_option maxHeartbeats 400000 in
theorem refBoth_any (A B : Option Addr) (n m c d : Nat) (xs ys : List Int) (w : World) (BL : Nat) (ha : RInts w BL A n xs) (hb : RInts w BL B m ys) (hn : n ≤ maxLen) (hm : m ≤ maxLen) :
    Calls Tryd.prog 58 #[.slice A n c, .slice B m d] w fun e w' => e = .returned (.int .i64 (bothE xs ys)) ∧ ∃ q, w' = w.drewN q := by
  have hL1 := ha.len
  have hL2 := hb.len
  by_cases h1 : chk xs = 0
  · by_cases h2 : chk ys = 0
    · by_cases h3 : n = m
      · have hE := Lib.hid (both_of h1 h2 (by omega))
        have hX := Lib.hid h1
        have hY := Lib.hid h2
        clear h1 h2
        subst h3
        go_enter Tryd.func58, Tryd.ntmps58
        have _t := hn
        go_wp2_with (first
          | (go_at_call 47
             clear _t
             refine (refCheck_any A n c xs w BL ha hn).mono ?_
             rintro e w1 ⟨rfl, q1, rfl⟩
             rw [hX.out])
          | (go_at_call 47
             refine (refCheck_any B n d ys _ BL (hb.drewN q1) hm).mono ?_
             rintro e w1 ⟨rfl, q2, rfl⟩
             rw [hY.out]))
        go_ret
        exact ⟨by rw [hE.out]; rfl, q1 + q2, rfl⟩
      · have hE := Lib.hid (both_3 h1 h2 (by omega))
        have hX := Lib.hid h1
        have hY := Lib.hid h2
        have hne : ((n : Int) != (m : Int)) = true := by simp; omega
        clear h1 h2
        go_enter Tryd.func58, Tryd.ntmps58
        have _t := hn
        go_wp2_with (first
          | (go_at_call 47
             clear _t
             refine (refCheck_any A n c xs w BL ha hn).mono ?_
             rintro e w1 ⟨rfl, q1, rfl⟩
             rw [hX.out])
          | (go_at_call 47
             refine (refCheck_any B m d ys _ BL (hb.drewN q1) hm).mono ?_
             rintro e w1 ⟨rfl, q2, rfl⟩
             rw [hY.out]))
        go_ret
        exact ⟨by rw [hE.out]; rfl, q1 + q2, rfl⟩
    · have hE := Lib.hid (both_2 h1 h2)
      have hX := Lib.hid h1
      have hy0 : (chk ys == 0) = false := by simpa using h2
      clear h1 h2
      go_enter Tryd.func58, Tryd.ntmps58
      have _t := hn
      go_wp2_with (first
        | (go_at_call 47
           clear _t
           refine (refCheck_any A n c xs w BL ha hn).mono ?_
           rintro e w1 ⟨rfl, q1, rfl⟩
           rw [hX.out])
        | (go_at_call 47
           refine (refCheck_any B m d ys _ BL (hb.drewN q1) hm).mono ?_
           rintro e w1 ⟨rfl, q2, rfl⟩))
      go_ret
      exact ⟨by rw [hE.out]; rfl, q1 + q2, rfl⟩
  · have hE := Lib.hid (both_1 (ys := ys) h1)
    have hx0 : (chk xs == 0) = false := by simpa using h1
    clear h1
    go_enter Tryd.func58, Tryd.ntmps58
    go_wp2_with (first
      | (go_at_call 47
         refine (refCheck_any A n c xs w BL ha hn).mono ?_
         rintro e w1 ⟨rfl, q1, rfl⟩))
    go_ret
    exact ⟨by rw [hE.out]; rfl, q1, rfl⟩
theorem numS_bin16 {xs : List Int} (h : xs.length ≤ 16) : numS xs < 65536 := Nat.lt_of_lt_of_le (numS_lt xs) (pow16 h)
set_option maxHeartbeats 400000 in
theorem refDistance_any (A B : Option Addr) (n m c d : Nat) (xs ys : List Int) (w : World) (BL : Nat) (ha : RInts w BL A n xs) (hb : RInts w BL B m ys) (hn : n ≤ 16) (hm : m ≤ 16) (hx : bin xs) (hy : bin ys) :
    Calls Tryd.prog 55 #[.slice A n c, .slice B m d] w fun e w' => e = .returned (.int .i64 (distS (numS xs) (numS ys) : Nat)) ∧ w' = w := by
  have h1 := numS_bin16 (xs := xs) (by rw [ha.len]; exact hn)
  have h2 := numS_bin16 (xs := ys) (by rw [hb.len]; exact hm)
  have hD : (distS (numS xs) (numS ys) : Nat) = (numS xs - numS ys) + (numS ys - numS xs) := rfl
  have hDD := Lib.hid hD
  clear hD
  have hX := Lib.hid hx
  have hY := Lib.hid hy
  clear hx hy
  by_cases hc : numS xs - numS ys < numS ys
  · skip
    go_enter Tryd.func55, Tryd.ntmps55
    have _t := hn
    go_wp2_with (first
      | (go_at_call 51
         clear _t
         refine (refNumber_any A n c xs w BL ha hn hX.out).mono ?_
         rintro e w1 ⟨rfl, rfl⟩)
      | (go_at_call 51
         refine (refNumber_any B m d ys w1 BL hb hm hY.out).mono ?_
         rintro e w2 ⟨rfl, rfl⟩))
    all_goals
      go_ret
      exact ⟨ret_int (by rw [hDD.out]; omega), rfl⟩
  · skip
    go_enter Tryd.func55, Tryd.ntmps55
    have _t := hn
    go_wp2_with (first
      | (go_at_call 51
         clear _t
         refine (refNumber_any A n c xs w BL ha hn hX.out).mono ?_
         rintro e w1 ⟨rfl, rfl⟩)
      | (go_at_call 51
         refine (refNumber_any B m d ys w1 BL hb hm hY.out).mono ?_
         rintro e w2 ⟨rfl, rfl⟩))
    all_goals
      go_ret
      exact ⟨ret_int (by rw [hDD.out]; omega), rfl⟩
set_option maxHeartbeats 400000 in
theorem refNext_any (A B : Option Addr) (n c d : Nat) (xs ys : List Int) (w : World) (ha : RInts w w.heap.size A n xs) (hb : RInts w w.heap.size B n ys) (hn : n ≤ 16) (hx : bin xs) (hy : bin ys) (hne : numS xs ≠ numS ys) :
    Calls Tryd.prog 60 #[.slice A n c, .slice B n d] w fun e w' => e = .returned (.int .i64 (nextS (numS xs) (numS ys) : Nat)) ∧ Below w.heap.size w w' := by
  have hL := Lib.hid ha.len
  have hl2 := numS_lt ys
  rw [hb.len, ← hL.out] at hl2
  obtain ⟨s1, s2, s3, s4⟩ := next_stop hx hne hl2
  obtain ⟨K, hK⟩ : ∃ K, K = nextS (numS xs) (numS ys) := ⟨_, rfl⟩
  rw [← hK] at s1 s2 s3 s4 ⊢
  rw [hL.out] at s1
  replace s2 := Lib.hid s2
  replace s3 : Hid (distS (numS (moveS xs K)) (numS ys) + 1 = distS (numS xs) (numS ys)) := Lib.hid (by rw [s3]; exact step_near hne)
  replace s4 := Lib.hid s4
  have hX := Lib.hid hx
  have hY := Lib.hid hy
  have hK16 : K ≤ 16 := by omega
  clear hx hy hne hl2 hK
  go_enter Tryd.func60, Tryd.ntmps60
  go_wp2_with (fail)
  go_loopw [5] (fun i wr => ∃ k : Nat, k ≤ K ∧ i = .int .i64 k ∧ Below w.heap.size w wr) (fun i _ => K - (intOf i).toNat)
  case atStart => exact ⟨0, by omega, rfl, Below.refl _ _⟩
  case round =>
    obtain ⟨k, hk, rfl, hbe⟩ := hrel
    have har := (ha.below hbe).more hbe.size
    have hbr := (hb.below hbe).more hbe.size
    rcases Nat.lt_or_eq_of_le hk with hlt | rfl
    · cases hc : canS xs k with
      | false =>
        have hC := Lib.hid hc
        clear hc
        go_wp2_with (first
          | (go_at_call 71
             refine (refCan_any A n c k xs wr _ har hn (by omega)).mono ?_
             rintro e w1 ⟨rfl, rfl⟩
             rw [hC.out]))
        go_roundw
        case rel => exact ⟨k + 1, by omega, by go_num, hbe⟩
        case measure => simp [intOf]; omega
      | true =>
        have hfar : (distS (numS xs) (numS ys) : Int) < (distS (numS (moveS xs k)) (numS ys) : Nat) := by
          have := s4.out k (by rw [hL.out]; omega) hc (by omega); omega
        have hC := Lib.hid hc
        clear hc
        go_wp2_with (first
          | (go_at_call 71
             refine (refCan_any A n c k xs wr _ har hn (by omega)).mono ?_
             rintro e w1 ⟨rfl, rfl⟩
             rw [hC.out])
          | (go_at_call 61
             refine (refMoved_any A n c k xs w1 har hn (by omega) hX.out).mono ?_
             rintro e w2 ⟨A2, c2, rfl, hr2, hb2⟩
             have _t := hb2)
          | (go_at_call 55
             clear _t
             refine (refDistance_any A2 B n n c2 d (moveS xs k) ys w2 _ hr2 ((hbr.below hb2).more hb2.size) hn hn (moveS_bin hX.out k) hY.out).mono ?_
             rintro e w3 ⟨rfl, rfl⟩)
          | (go_at_call 55
             refine (refDistance_any A B n n c d xs ys w3 _ ((har.below hb2).more hb2.size) ((hbr.below hb2).more hb2.size) hn hn hX.out hY.out).mono ?_
             rintro e w4 ⟨rfl, rfl⟩))
        go_roundw
        case rel => exact ⟨k + 1, by omega, by go_num, hbe.trans (hb2.mono hbe.size)⟩
        case measure => simp [intOf]; omega
    · have hnear : ¬ ((distS (numS xs) (numS ys) : Int) < (distS (numS (moveS xs k)) (numS ys) : Nat)) := by have := s3.out; omega
      have hnear2 : (distS (numS (moveS xs k)) (numS ys) : Int) ≤ (distS (numS xs) (numS ys) : Nat) := by omega
      have hnear3 : distS (numS (moveS xs k)) (numS ys) ≤ distS (numS xs) (numS ys) := by omega
      go_wp2_with (first
        | (go_at_call 71
           refine (refCan_any A n c k xs wr _ har hn (by omega)).mono ?_
           rintro e w1 ⟨rfl, rfl⟩
           rw [s2.out])
        | (go_at_call 61
           refine (refMoved_any A n c k xs w1 har hn (by omega) hX.out).mono ?_
           rintro e w2 ⟨A2, c2, rfl, hr2, hb2⟩
           have _t := hb2)
        | (go_at_call 55
           clear _t
           refine (refDistance_any A2 B n n c2 d (moveS xs k) ys w2 _ hr2 ((hbr.below hb2).more hb2.size) hn hn (moveS_bin hX.out k) hY.out).mono ?_
           rintro e w3 ⟨rfl, rfl⟩)
        | (go_at_call 55
           refine (refDistance_any A B n n c d xs ys w3 _ ((har.below hb2).more hb2.size) ((hbr.below hb2).more hb2.size) hn hn hX.out hY.out).mono ?_
           rintro e w4 ⟨rfl, rfl⟩))
      go_ret
      exact ⟨rfl, hbe.trans (hb2.mono hbe.size)⟩
end Go.Proofs.YtjhcemhnnkcjaaaDoor
-- the text RefApi1
namespace Go.Proofs.YtjhcemhnnkcjaaaDoor
open Go.RowKit
theorem both_pre {A B : Option Addr} {n m : Nat} {xs ys : List Int} {w : World} {BL : Nat} (ha : RInts w BL A n xs) (hb : RInts w BL B m ys) (he : bothE xs ys = 0) :
    n = m ∧ bin xs ∧ bin ys ∧ numS xs < 65536 ∧ numS ys < 65536 ∧ n ≤ 16 ∧ n ≠ 0 := by
  obtain ⟨h1, hx, hy, l1, l2, l3, l4, l5⟩ := walked_pre ha hb he
  exact ⟨h1, bin_of_all (chk_zero hx).2.2, bin_of_all (chk_zero hy).2.2, by omega, by omega, l4, l5⟩
set_option maxHeartbeats 400000 in
theorem refNumberApi_any (A : Option Addr) (n c : Nat) (xs : List Int) (w : World) (ha : RInts w w.heap.size A n xs) (hn : n ≤ maxLen) :
    Calls Tryd.prog 17 #[.slice A n c] w (RetI (if chk xs = 0 then (numS xs : Int) else 0) (chk xs) w) := by
  by_cases hx : chk xs = 0
  · have hz := chk_zero hx
    rw [ha.len] at hz
    have h16 := hz.2.1
    have hB := Lib.hid (bin_of_all hz.2.2)
    have hX := Lib.hid hx
    rw [if_pos hx, hx]
    clear hx hz
    go_enter Tryd.func17, Tryd.ntmps17
    go_wp2_with (first
      | (go_at_call 47
         refine (refCheck_any A n c xs w _ ha hn).mono ?_
         rintro e w1 ⟨rfl, q1, rfl⟩
         rw [hX.out])
      | (go_at_call 51
         refine (refNumber_any A n c xs _ _ (ha.drewN q1) h16 hB.out).mono ?_
         rintro e w2 ⟨rfl, rfl⟩))
    go_ret2
    exact ⟨rfl, below_drewN (Below.refl _ _) q1⟩
  · have hb0 : (chk xs != 0) = true := by simpa using hx
    rw [if_neg hx]
    clear hx
    go_enter Tryd.func17, Tryd.ntmps17
    go_wp2_with (first
      | (go_at_call 47
         refine (refCheck_any A n c xs w _ ha hn).mono ?_
         rintro e w1 ⟨rfl, q1, rfl⟩))
    go_ret2
    exact ⟨rfl, below_drewN (Below.refl _ _) q1⟩
set_option maxHeartbeats 400000 in
theorem refDistanceApi_any (A B : Option Addr) (n m c d : Nat) (xs ys : List Int) (w : World) (ha : RInts w w.heap.size A n xs) (hb : RInts w w.heap.size B m ys) (hn : n ≤ maxLen) (hm : m ≤ maxLen) :
    Calls Tryd.prog 24 #[.slice A n c, .slice B m d] w (RetI (if bothE xs ys = 0 then (distS (numS xs) (numS ys) : Int) else 0) (bothE xs ys) w) := by
  by_cases he : bothE xs ys = 0
  · obtain ⟨rfl, hx, hy, k1, k2, h16, _⟩ := both_pre ha hb he
    have hX := Lib.hid hx
    have hY := Lib.hid hy
    have hE := Lib.hid he
    rw [if_pos he, he]
    clear hx hy he
    go_enter Tryd.func24, Tryd.ntmps24
    go_wp2_with (first
      | (go_at_call 58
         refine (refBoth_any A B n n c d xs ys w _ ha hb hn hm).mono ?_
         rintro e w1 ⟨rfl, q1, rfl⟩
         rw [hE.out])
      | (go_at_call 55
         refine (refDistance_any A B n n c d xs ys _ _ (ha.drewN q1) (hb.drewN q1) h16 h16 hX.out hY.out).mono ?_
         rintro e w2 ⟨rfl, rfl⟩))
    go_ret2
    exact ⟨rfl, below_drewN (Below.refl _ _) q1⟩
  · have hb0 : (bothE xs ys != 0) = true := by simpa using he
    rw [if_neg he]
    clear he
    go_enter Tryd.func24, Tryd.ntmps24
    go_wp2_with (first
      | (go_at_call 58
         refine (refBoth_any A B n m c d xs ys w _ ha hb hn hm).mono ?_
         rintro e w1 ⟨rfl, q1, rfl⟩))
    go_ret2
    exact ⟨rfl, below_drewN (Below.refl _ _) q1⟩
set_option maxHeartbeats 400000 in
theorem refNextApi_any (A B : Option Addr) (n m c d : Nat) (xs ys : List Int) (w : World) (ha : RInts w w.heap.size A n xs) (hb : RInts w w.heap.size B m ys) (hn : n ≤ maxLen) (hm : m ≤ maxLen) :
    Calls Tryd.prog 26 #[.slice A n c, .slice B m d] w (RetI (if nextE xs ys = 0 then (nextS (numS xs) (numS ys) : Int) else 0) (nextE xs ys) w) := by
  by_cases he : bothE xs ys = 0
  · obtain ⟨rfl, hx, hy, k1, k2, h16, _⟩ := both_pre ha hb he
    have hX := Lib.hid hx
    have hY := Lib.hid hy
    have hE := Lib.hid he
    by_cases hs : numS xs = numS ys
    · rw [nextE_same he hs, if_neg (by omega)]
      have hd : Hid (distS (numS xs) (numS ys) = 0) := Lib.hid (by unfold distS; omega)
      clear hx hy he hs
      go_enter Tryd.func26, Tryd.ntmps26
      go_wp2_with (first
        | (go_at_call 58
           refine (refBoth_any A B n n c d xs ys w _ ha hb hn hm).mono ?_
           rintro e w1 ⟨rfl, q1, rfl⟩
           rw [hE.out])
        | (go_at_call 55
           refine (refDistance_any A B n n c d xs ys _ _ (ha.drewN q1) (hb.drewN q1) h16 h16 hX.out hY.out).mono ?_
           rintro e w2 ⟨rfl, rfl⟩
           rw [hd.out]))
      go_ret2
      exact ⟨rfl, below_drewN (Below.refl _ _) q1⟩
    · rw [nextE_ok he hs, if_pos rfl]
      have hd := distS_ne hs
      have hS := Lib.hid hs
      clear hx hy he hs
      go_enter Tryd.func26, Tryd.ntmps26
      go_wp2_with (first
        | (go_at_call 58
           refine (refBoth_any A B n n c d xs ys w _ ha hb hn hm).mono ?_
           rintro e w1 ⟨rfl, q1, rfl⟩
           rw [hE.out])
        | (go_at_call 55
           refine (refDistance_any A B n n c d xs ys _ _ (ha.drewN q1) (hb.drewN q1) h16 h16 hX.out hY.out).mono ?_
           rintro e w2 ⟨rfl, rfl⟩)
        | (go_at_call 60
           refine (refNext_any A B n c d xs ys _ (ha.drewN q1) (hb.drewN q1) h16 hX.out hY.out hS.out).mono ?_
           rintro e w3 ⟨rfl, hb3⟩))
      go_ret2
      exact ⟨rfl, (below_drewN (Below.refl _ _) q1).trans hb3⟩
  · have hb0 : (bothE xs ys != 0) = true := by simpa using he
    have hb1 : (bothE xs ys == 0) = false := by simpa using he
    rw [nextE_bad he, if_neg he]
    clear he
    go_enter Tryd.func26, Tryd.ntmps26
    go_wp2_with (first
      | (go_at_call 58
         refine (refBoth_any A B n m c d xs ys w _ ha hb hn hm).mono ?_
         rintro e w1 ⟨rfl, q1, rfl⟩))
    go_ret2
    exact ⟨rfl, below_drewN (Below.refl _ _) q1⟩
end Go.Proofs.YtjhcemhnnkcjaaaDoor
-- the text RefApi2
namespace Go.Proofs.YtjhcemhnnkcjaaaDoor
open Go.RowKit
theorem refPlace_L (r n : Nat) (hr : r ≤ 16) (hr0 : r ≠ 0) (hn : n < 65536) (y : Int) (hy : y = (n : Int)) (w : World) :
    Calls Tryd.prog 54 #[.int .i64 r, .int .i64 y] w fun e w' => ∃ g, e = .returned (.slice (some ⟨g, 0, none⟩) r r) ∧ RInts w' w'.heap.size (some ⟨g, 0, none⟩) r (grayS r n) ∧ Below w.heap.size w w' := by
  subst hy; exact refPlace_any r n hr hr0 hn w
set_option maxHeartbeats 1000000 in
theorem refPosition_any (r n : Int) (h1 : -9223372036854775808 ≤ n) (h2 : n ≤ 9223372036854775807) (w : World) :
    Calls Tryd.prog 19 #[.int .i64 r, .int .i64 n] w (RetL (posL r n) (posE r n) w) := by
  by_cases hr1 : r < 1
  · have hE := posE_out (r := r) (n := n) (by omega)
    have hL : posL r n = [] := by rw [posL, hE]; rfl
    rw [hE, hL]
    clear hE hL
    go_enter Tryd.func19, Tryd.ntmps19
    go_wp2_with (fail)
    go_ret2
    exact RetL_nil (Below.refl _ _)
  by_cases hr2 : 16 < r
  · have hE := posE_out (r := r) (n := n) (by omega)
    have hL : posL r n = [] := by rw [posL, hE]; rfl
    rw [hE, hL]
    clear hE hL
    go_enter Tryd.func19, Tryd.ntmps19
    go_wp2_with (fail)
    go_ret2
    exact RetL_nil (Below.refl _ _)
  by_cases hn0 : n < 0
  · have hE := posE_out (r := r) (n := n) (by omega)
    have hL : posL r n = [] := by rw [posL, hE]; rfl
    rw [hE, hL]
    clear hE hL
    go_enter Tryd.func19, Tryd.ntmps19
    go_wp2_with (fail)
    go_ret2
    exact RetL_nil (Below.refl _ _)
  obtain ⟨k, rfl⟩ : ∃ k : Nat, r = k := ⟨r.toNat, by omega⟩
  obtain ⟨m, rfl⟩ : ∃ m : Nat, n = m := ⟨n.toNat, by omega⟩
  clear hn0
  have hwp : wrap64 (2 ^ k) = ((2 ^ k : Nat) : Int) := wrap64_pow (by omega)
  by_cases hb : 2 ^ k ≤ m
  · have hE := posE_out (r := k) (n := m) (by
      rintro ⟨_, _, _, h⟩
      simp only [Int.toNat_natCast] at h
      have : m < 2 ^ k := by exact_mod_cast h
      omega)
    have hL : posL k m = [] := by rw [posL, hE]; rfl
    have hs : wrap64 (2 ^ k) ≤ (m : Int) := by rw [hwp]; exact_mod_cast hb
    rw [hE, hL]
    clear hE hL hb hwp
    go_enter Tryd.func19, Tryd.ntmps19
    go_wp2_with (fail)
    go_ret2
    exact RetL_nil (Below.refl _ _)
  · have hE := posE_in (r := k) (n := m) (by omega) (by omega) (by omega)
    have hL : posL k m = grayS k m := by rw [posL, hE]; rfl
    have hs : ¬ wrap64 (2 ^ k) ≤ (m : Int) := by rw [hwp]; intro h; exact hb (by exact_mod_cast h)
    have h16 := pow16 (r := k) (by omega)
    have hm16 : m < 65536 := by omega
    rw [hE, hL]
    clear hE hL hb hwp h16
    go_enter Tryd.func19, Tryd.ntmps19
    go_wp2_with (first
      | (go_at_call 54; refine (refPlace_any k m (by omega) (by omega) hm16 _).mono ?_; rintro e w2 ⟨g, rfl, hr9, hb2⟩))
    go_ret2
    exact ⟨_, _, _, rfl, hr9, by omega, hb2⟩
set_option maxHeartbeats 1000000 in
theorem refAt_any (A B : Option Addr) (n m c d : Nat) (xs ys : List Int) (k : Int) (w : World) (ha : RInts w w.heap.size A n xs) (hb : RInts w w.heap.size B m ys) (hn : n ≤ maxLen) (hm : m ≤ maxLen) :
    Calls Tryd.prog 34 #[.slice A n c, .slice B m d, .int .i64 k] w (RetL (atL xs ys k) (atE xs ys k) w) := by
  by_cases he : bothE xs ys = 0
  · obtain ⟨rfl, hx, hy, k1, k2, hn16, hn0⟩ := both_pre ha hb he
    have hX := Lib.hid hx
    have hY := Lib.hid hy
    have hEE := Lib.hid he
    have hL := Lib.hid ha.len
    clear hx hy
    by_cases hk0 : k < 0
    · have hE : atE xs ys k = 1 := by simp [atE, he, hk0]
      have hLi : atL xs ys k = [] := by simp [atL, hE]
      rw [hE, hLi]
      clear hE hLi he
      go_enter Tryd.func34, Tryd.ntmps34
      go_wp2_with (first
        | (go_at_call 58; refine (refBoth_any A B n n c d xs ys w _ ha hb hn hm).mono ?_; rintro e w1 ⟨rfl, q1, rfl⟩; rw [hEE.out]))
      go_ret2
      exact RetL_nil (below_drewN (Below.refl _ _) q1)
    obtain ⟨j, rfl⟩ : ∃ j : Nat, k = j := ⟨k.toNat, by omega⟩
    clear hk0
    by_cases hkd : distS (numS xs) (numS ys) < j
    · have hE : atE xs ys j = 1 := by
        have : (distS (numS xs) (numS ys) : Int) < (j : Int) := by omega
        simp [atE, he, this]
      have hLi : atL xs ys j = [] := by simp [atL, hE]
      rw [hE, hLi]
      clear hE hLi he
      go_enter Tryd.func34, Tryd.ntmps34
      go_wp2_with (first
        | (go_at_call 58; refine (refBoth_any A B n n c d xs ys w _ ha hb hn hm).mono ?_; rintro e w1 ⟨rfl, q1, rfl⟩; rw [hEE.out])
        | (go_at_call 55; refine (refDistance_any A B n n c d xs ys _ _ (ha.drewN q1) (hb.drewN q1) hn16 hn16 hX.out hY.out).mono ?_; rintro e w2 ⟨rfl, rfl⟩))
      go_ret2
      exact RetL_nil (below_drewN (Below.refl _ _) q1)
    have hE : atE xs ys j = 0 := by
      have : ¬ (distS (numS xs) (numS ys) : Int) < (j : Int) := by omega
      simp [atE, he, this]
    have hkd' : ¬ (distS (numS xs) (numS ys) : Int) < (j : Int) := by omega
    by_cases hlt : numS ys < numS xs
    · have hLi : atL xs ys j = grayS n (numS xs - j) := by simp [atL, hE, hlt, hL.out]
      have hs : numS xs - j < 65536 := by omega
      have hj : j ≤ numS xs := by unfold distS at hkd; omega
      rw [hE, hLi]
      clear hE hLi he
      go_enter Tryd.func34, Tryd.ntmps34
      have _t := hn
      go_wp2_with (first
        | (go_at_call 58; refine (refBoth_any A B n n c d xs ys w _ ha hb hn hm).mono ?_; rintro e w1 ⟨rfl, q1, rfl⟩; rw [hEE.out])
        | (go_at_call 55; refine (refDistance_any A B n n c d xs ys _ _ (ha.drewN q1) (hb.drewN q1) hn16 hn16 hX.out hY.out).mono ?_; rintro e w2 ⟨rfl, rfl⟩)
        | (go_at_call_of 51 (Value.slice A n c); refine (refNumber_any A n c xs _ _ (ha.drewN q1) hn16 hX.out).mono ?_; rintro e w3 ⟨rfl, rfl⟩)
        | (go_at_call_of 51 (Value.slice B n d); refine (refNumber_any B n d ys _ _ (hb.drewN q1) hn16 hY.out).mono ?_; rintro e w3 ⟨rfl, rfl⟩)
        | (go_at_call 54; refine (refPlace_L n (numS xs - j) hn16 hn0 hs _ (by omega) _).mono ?_; rintro e w4 ⟨g, rfl, hr4, hb4⟩))
      go_ret2
      exact ⟨_, _, _, rfl, hr4, by omega, (below_drewN (Below.refl _ _) q1).trans hb4⟩
    · have hLi : atL xs ys j = grayS n (numS xs + j) := by simp [atL, hE, hlt, hL.out]
      have hs : numS xs + j < 65536 := by unfold distS at hkd; omega
      rw [hE, hLi]
      clear hE hLi he
      go_enter Tryd.func34, Tryd.ntmps34
      go_wp2_with (first
        | (go_at_call 58; refine (refBoth_any A B n n c d xs ys w _ ha hb hn hm).mono ?_; rintro e w1 ⟨rfl, q1, rfl⟩; rw [hEE.out])
        | (go_at_call 55; refine (refDistance_any A B n n c d xs ys _ _ (ha.drewN q1) (hb.drewN q1) hn16 hn16 hX.out hY.out).mono ?_; rintro e w2 ⟨rfl, rfl⟩)
        | (go_at_call_of 51 (Value.slice A n c); refine (refNumber_any A n c xs _ _ (ha.drewN q1) hn16 hX.out).mono ?_; rintro e w3 ⟨rfl, rfl⟩)
        | (go_at_call_of 51 (Value.slice B n d); refine (refNumber_any B n d ys _ _ (hb.drewN q1) hn16 hY.out).mono ?_; rintro e w3 ⟨rfl, rfl⟩)
        | (go_at_call 54; refine (refPlace_L n (numS xs + j) hn16 hn0 hs _ (by omega) _).mono ?_; rintro e w4 ⟨g, rfl, hr4, hb4⟩))
      go_ret2
      exact ⟨_, _, _, rfl, hr4, by omega, (below_drewN (Below.refl _ _) q1).trans hb4⟩
  · have hb0 : (bothE xs ys != 0) = true := by simpa using he
    have hb1 : (bothE xs ys == 0) = false := by simpa using he
    have hAE : atE xs ys k = bothE xs ys := by simp [atE, he]
    have hLi : atL xs ys k = [] := by simp [atL, hAE, he]
    rw [hAE, hLi]
    clear he hAE hLi
    go_enter Tryd.func34, Tryd.ntmps34
    go_wp2_with (first
      | (go_at_call 58; refine (refBoth_any A B n m c d xs ys w _ ha hb hn hm).mono ?_; rintro e w1 ⟨rfl, q1, rfl⟩))
    go_ret2
    exact RetL_nil (below_drewN (Below.refl _ _) q1)
set_option maxHeartbeats 400000 in
theorem refMoves_any (A : Option Addr) (n c : Nat) (xs : List Int) (w : World) (ha : RInts w w.heap.size A n xs) (hn : n ≤ maxLen) :
    Calls Tryd.prog 43 #[.slice A n c] w (RetL (movesS xs) (chk xs) w) := by
  by_cases hx : chk xs = 0
  · have hX := Lib.hid hx
    have hz := chk_zero hx
    rw [ha.len] at hz
    have hL := Lib.hid ha.len
    have hn16 := hz.2.1
    have hM : movesS xs = mvK xs n := by rw [movesS, if_pos hx, hL.out]; rfl
    rw [hM, hx]
    clear hx hz hM
    go_enter Tryd.func43, Tryd.ntmps43
    go_wp2_with (first
      | (go_at_call 47
         refine (refCheck_any A n c xs w _ ha hn).mono ?_
         rintro e w1 ⟨rfl, q1, rfl⟩
         rw [hX.out]))
    go_loopw [6, 5] (fun i v wr => ∃ k : Nat, k ≤ n ∧ i = .int .i64 k ∧ OwnI wr w.heap.size v (mvK xs k) ∧ Below w.heap.size w wr) (fun i _ _ => n - (intOf i).toNat)
    case atStart => exact ⟨0, by omega, rfl, OwnI.nil _ _, below_drewN (Below.refl _ _) q1⟩
    case round =>
      obtain ⟨k, hk, rfl, hown, hb3⟩ := hrel
      have har := (ha.below hb3).more hb3.size
      by_cases hlt : k < n
      · cases hc : canS xs k with
        | false =>
          have hC := Lib.hid hc
          have hN := Lib.hid (mvK_no hc)
          clear hc
          go_wp2_with (first
            | (go_at_call 71
               refine (refCan_any A n c k xs wr _ har hn16 hk).mono ?_
               rintro e w4 ⟨rfl, rfl⟩
               rw [hC.out]))
          go_roundw
          case rel => exact ⟨k + 1, by omega, by go_num, by rw [hN.out]; exact hown, hb3⟩
          case measure => simp [intOf]; omega
        | true =>
          have hC := Lib.hid hc
          have hN := Lib.hid (mvK_yes hc)
          have hle := mvK_le xs k
          clear hc
          go_wp2_with (first
            | (go_at_call 71
               refine (refCan_any A n c k xs wr _ har hn16 hk).mono ?_
               rintro e w4 ⟨rfl, rfl⟩
               rw [hC.out])
            | (at_builtin
               refine wpList_push rfl _ _ rfl rfl (hown.none_ (World.grownBy_alloc w4 _ none)) w4.heap.size 1 k rfl (Blk.new _ _ _) (by omega) (by simp; have := hb3.size; omega) ?_
               intro g5 cap5 w5 hown5 hg5 hat5 hlt5))
          go_roundw
          case rel =>
            refine ⟨k + 1, by omega, by go_num, by rw [hN.out]; exact hown5, (hb3.alloc hb3.size _).grown hg5 (by simp; have := hb3.size; omega) (fun j hj => hown.ge hj)⟩
          case measure => simp [intOf]; omega
      · obtain rfl : k = n := by omega
        have hle := mvK_le xs k
        go_wp2_with (fail)
        go_ret2
        exact RetL_own hown (by omega) hb3
  · have hb0 : (chk xs != 0) = true := by simpa using hx
    have hM : movesS xs = [] := by rw [movesS, if_neg hx]
    rw [hM]
    clear hx hM
    go_enter Tryd.func43, Tryd.ntmps43
    go_wp2_with (first
      | (go_at_call 47
         refine (refCheck_any A n c xs w _ ha hn).mono ?_
         rintro e w1 ⟨rfl, q1, rfl⟩))
    go_ret2
    exact RetL_nil (below_drewN (Below.refl _ _) q1)
set_option maxHeartbeats 400000 in
theorem refMove_any (A : Option Addr) (n c : Nat) (xs : List Int) (r : Int) (w : World) (ha : RInts w w.heap.size A n xs) (hn : n ≤ maxLen) :
    Calls Tryd.prog 45 #[.slice A n c, .int .i64 r] w (RetL (moveL xs r) (moveE xs r) w) := by
  by_cases hx : chk xs = 0
  · have hX := Lib.hid hx
    have hz := chk_zero hx
    rw [ha.len] at hz
    have hL := Lib.hid ha.len
    have hn16 := hz.2.1
    have hE : moveE xs r = stepE xs r := by rw [moveE, if_pos hx]
    have hB := Lib.hid (bin_of_all hz.2.2)
    by_cases hs : stepE xs r = 0
    · obtain ⟨r0, r1, -⟩ := stepE_zero hs
      have hM : moveL xs r = moveS xs r.toNat := by rw [moveL, hE, if_pos hs]
      obtain ⟨k, rfl⟩ : ∃ k : Nat, r = k := ⟨r.toNat, by omega⟩
      rw [Int.toNat_natCast] at hM
      have hk : k < n := by rw [hL.out] at r1; omega
      rw [hM, hE, hs]
      have hS := Lib.hid hs
      clear hx hz hM hE hs r0 r1
      go_enter Tryd.func45, Tryd.ntmps45
      go_wp2_with (first
        | (go_at_call 47
           refine (refCheck_any A n c xs w _ ha hn).mono ?_
           rintro e w1 ⟨rfl, q1, rfl⟩
           rw [hX.out])
        | (go_at_call 63
           refine (refStep_any A n c k xs _ _ (ha.drewN q1) hn16).mono ?_
           rintro e w2 ⟨rfl, rfl⟩
           rw [hS.out])
        | (go_at_call 61
           refine (refMoved_any A n c k xs _ (ha.drewN q1) hn16 hk hB.out).mono ?_
           rintro e w3 ⟨A3, c3, rfl, hr3, hb3⟩))
      go_ret2
      exact ⟨_, _, _, rfl, hr3, by omega, (below_drewN (Below.refl _ _) q1).trans hb3⟩
    · have hM : moveL xs r = [] := by rw [moveL, hE, if_neg hs]
      have hb0 : (stepE xs r != 0) = true := by simpa using hs
      rw [hM, hE]
      clear hx hz hM hE hs
      go_enter Tryd.func45, Tryd.ntmps45
      go_wp2_with (first
        | (go_at_call 47
           refine (refCheck_any A n c xs w _ ha hn).mono ?_
           rintro e w1 ⟨rfl, q1, rfl⟩
           rw [hX.out])
        | (go_at_call 63
           refine (refStep_any A n c r xs _ _ (ha.drewN q1) hn16).mono ?_
           rintro e w2 ⟨rfl, rfl⟩))
      go_ret2
      exact RetL_nil (below_drewN (Below.refl _ _) q1)
  · have hb0 : (chk xs != 0) = true := by simpa using hx
    have hb1 : (chk xs == 0) = false := by simpa using hx
    have hE : moveE xs r = chk xs := by rw [moveE, if_neg hx]
    have hM : moveL xs r = [] := by rw [moveL, hE, if_neg hx]
    rw [hM, hE]
    clear hx hM hE
    go_enter Tryd.func45, Tryd.ntmps45
    go_wp2_with (first
      | (go_at_call 47
         refine (refCheck_any A n c xs w _ ha hn).mono ?_
         rintro e w1 ⟨rfl, q1, rfl⟩))
    go_ret2
    exact RetL_nil (below_drewN (Below.refl _ _) q1)
end Go.Proofs.YtjhcemhnnkcjaaaDoor
-- the text RefWay
namespace Go.Proofs.YtjhcemhnnkcjaaaDoor
open Go.RowKit
/-- a list that the call makes lies elsewhere than a list that it reads -/
def Apart (A : Option Addr) (v : Value) : Prop := ∀ ad : Addr, A = some ad → v.ownBlock ≠ some ad.block
set_option maxRecDepth 100000 in
set_option maxHeartbeats 1000000 in
theorem refWay_ok (A B : Option Addr) (n c d : Nat) (xs ys : List Int) (w : World) (ha : RInts w w.heap.size A n xs) (hb : RInts w w.heap.size B n ys) (hn : n ≤ maxLen) (he : bothE xs ys = 0) (hd : distS (numS xs) (numS ys) ≤ 1000) :
    Calls Tryd.prog 28 #[.slice A n c, .slice B n d] w (RetL (wayN (numS xs) (numS ys)) 0 w) := by
  obtain ⟨-, hx, hy, k1, k2, hn16, hn0⟩ := both_pre ha hb he
  have hX := Lib.hid hx
  have hY := Lib.hid hy
  have hE := Lib.hid he
  have hL := Lib.hid ha.len
  have hl2 := numS_lt ys
  rw [hb.len] at hl2
  have hl2 := Lib.hid hl2
  obtain ⟨D, hD⟩ : ∃ D, D = distS (numS xs) (numS ys) := ⟨_, rfl⟩
  rw [← hD] at hd
  have hDD := Lib.hid hD
  have hlen : Hid ((wayN (numS xs) (numS ys)).length = D) := Lib.hid (by rw [wayN_length, hD])
  have hp0 := Lib.hid (posS_zero (numS xs) (numS ys))
  have hps := fun j (h : j < D) => Lib.hid (posS_succ (a := numS xs) (b := numS ys) (j := j) (by rw [← hD]; exact h))
  have hpd := fun j (h : j ≤ D) => Lib.hid (posS_dist (a := numS xs) (b := numS ys) (j := j) (by rw [← hD]; exact h))
  have htk := fun j (h : j < D) => Lib.hid (wayN_take (a := numS xs) (b := numS ys) (j := j) (by rw [← hD]; exact h))
  obtain ⟨wy, hwy⟩ : ∃ wy, wy = wayN (numS xs) (numS ys) := ⟨_, rfl⟩
  rw [← hwy] at hlen htk ⊢
  obtain ⟨po, hpo⟩ : ∃ po, po = posS (numS xs) (numS ys) := ⟨_, rfl⟩
  rw [← hpo] at hp0 hps hpd htk
  clear hx hy he hD hwy hpo
  have hdd : ¬ (1000 : Int) < (D : Nat) := by omega
  go_enter Tryd.func28, Tryd.ntmps28
  go_wp2_with (first
    | (go_at_call 58
       refine (refBoth_any A B n n c d xs ys w _ ha hb hn hn).mono ?_
       rintro e w1 ⟨rfl, q1, rfl⟩
       rw [hE.out])
    | (go_at_call 55
       refine (refDistance_any A B n n c d xs ys _ _ (ha.drewN q1) (hb.drewN q1) hn16 hn16 hX.out hY.out).mono ?_
       rintro e w2 ⟨rfl, rfl⟩
       rw [← hDD.out]))
  go_loopg [0, 7] D (fun q u v wr => ∃ (j : Nat) (cur : List Int) (A1 : Option Addr) (c1 : Nat), Hid (q = D - j) ∧ u = .slice A1 n c1 ∧ RInts wr wr.heap.size A1 n cur ∧ Hid (bin cur) ∧ Hid (numS cur = po j) ∧ j ≤ D ∧
      OwnI wr w.heap.size v (wy.take j) ∧ Hid (Apart A1 v) ∧ Below w.heap.size w wr)
  case atStart => exact ⟨0, xs, A, c, Lib.hid rfl, rfl, ha.drewN q1, hX, Lib.hid hp0.out.symm, by omega, OwnI.nil _ _, Lib.hid (fun _ _ h => by simp [Value.ownBlock] at h), below_drewN (Below.refl _ _) q1⟩
  case round =>
    obtain ⟨j, cur, A1, c1, hq, rfl, har, hbc, hnc, hj, hown, hap, hbe⟩ := hrel
    have hbr := (hb.below hbe).more hbe.size
    have hdj := (hpd j hj).out
    rw [← hnc.out] at hdj
    by_cases hlt : j < D
    · have hpos : (0 : Int) < (D - j : Nat) := by omega
      have hne : numS cur ≠ numS ys := by intro h; rw [← hDD.out, h] at hdj; unfold distS at hdj; omega
      obtain ⟨s1, s2, s3, -⟩ := next_stop hbc.out hne (by rw [har.len]; exact hl2.out)
      have ht := (htk j hlt).out
      rw [← hnc.out] at ht
      have hst : numS (moveS cur (nextS (numS cur) (numS ys))) = po (j + 1) := by rw [s3, (hps j hlt).out, hnc.out]
      rw [har.len] at s1
      obtain ⟨K, hK⟩ : ∃ K, K = nextS (numS cur) (numS ys) := ⟨_, rfl⟩
      rw [← hK] at s1 hst ht
      have hST := Lib.hid hst
      have hHT := Lib.hid ht
      have hNE := Lib.hid hne
      have hKK := Lib.hid hK
      have hdj := Lib.hid (by rw [← hDD.out] at hdj; exact hdj : distS (numS cur) (numS ys) = D - j)
      have hl1 : (wy.take j).length = j := by rw [List.length_take, hlen.out]; omega
      clear s2 s3 hst ht hne hK hpd hps htk
      go_wp2_with (first
        | (go_at_call 55
           refine (refDistance_any A1 B n n c1 d cur ys wr _ har hbr hn16 hn16 hbc.out hY.out).mono ?_
           rintro e w1 ⟨rfl, rfl⟩
           rw [hdj.out])
        | (go_at_call 60
           refine (refNext_any A1 B n c1 d cur ys _ har hbr hn16 hbc.out hY.out hNE.out).mono ?_
           rintro e w2 ⟨rfl, hb2⟩
           rw [← hKK.out]
           have hown2 := hown.callee hb2
           have hbe2 := hbe.trans (hb2.mono hbe.size)
           have har2 := (har.below hb2).more hb2.size)
        | (at_builtin
           refine wpList_push rfl _ _ rfl rfl (hown2.none_ (World.grownBy_alloc w2 _ none)) w2.heap.size 1 K rfl (Blk.new _ _ _) (by omega) (by simp; have := hbe2.size; omega) ?_
           intro g5 cap5 w5 hown5 hg5 hat5 hlt5
           have hbe5 := (hbe2.alloc hbe2.size _).grown hg5 (by simp; have := hbe2.size; omega) (fun i hi => hown2.ge hi)
           have har5 := RInts.grownNe (Reads.alloc har2 (Nat.le_refl _) _) hg5 (by simp) hap.out
           have hsz5 : w2.heap.size ≤ w5.heap.size := by have := hg5.size; simp at this; omega)
        | (go_at_call 61
           refine (refMoved_new A1 n c1 K cur w5 (har5.more hsz5) hn16 s1 hbc.out).mono ?_
           rintro e w6 ⟨A6, c6, rfl, hr6, hb6, hfr6⟩))
      go_roundg (D - (j + 1))
      case rel => exact ⟨j + 1, moveS cur K, A6, c6, Lib.hid rfl, rfl, hr6, Lib.hid (moveS_bin hbc.out K), hST, by omega, by have h7 := hown5.callee hb6; rw [hl1] at h7; rw [hHT.out]; exact h7, Lib.hid (fun ad e h' => by have := hfr6.out ad e; simp only [Value.ownBlock, Option.some.injEq] at h'; omega), hbe5.trans (hb6.mono hbe5.size)⟩
      case measure => rw [hq.out]; omega
    · obtain rfl : j = D := by omega
      have hz : Hid (distS (numS cur) (numS ys) = 0) := Lib.hid (by rw [hdj, ← hDD.out]; omega)
      go_wp2_with (first
        | (go_at_call 55
           refine (refDistance_any A1 B n n c1 d cur ys wr _ har hbr hn16 hn16 hbc.out hY.out).mono ?_
           rintro e w1 ⟨rfl, rfl⟩
           rw [hz.out]))
      go_ret2
      have hjj : wy.take j = wy := List.take_of_length_le (by rw [hlen.out]; exact Nat.le_refl _)
      rw [hjj] at hown
      exact RetL_own hown (by rw [hlen.out]; omega) hbe
set_option maxHeartbeats 1000000 in
theorem refWay_any (A B : Option Addr) (n m c d : Nat) (xs ys : List Int) (w : World) (ha : RInts w w.heap.size A n xs) (hb : RInts w w.heap.size B m ys) (hn : n ≤ maxLen) (hm : m ≤ maxLen) :
    Calls Tryd.prog 28 #[.slice A n c, .slice B m d] w (RetL (wayL xs ys) (wayE xs ys) w) := by
  by_cases he : bothE xs ys = 0
  · obtain ⟨rfl, hx, hy, k1, k2, hn16, _⟩ := both_pre ha hb he
    by_cases hd : distS (numS xs) (numS ys) ≤ 1000
    · have h0 : wayE xs ys = 0 := by rw [wayE, if_neg (by simp [he]), if_neg (by omega)]
      rw [h0, wayL, if_pos h0]
      exact refWay_ok A B n c d xs ys w ha hb hn he hd
    · have h0 : wayE xs ys = 3 := by rw [wayE, if_neg (by simp [he]), if_pos (by omega)]
      rw [h0, wayL, if_neg (by rw [h0]; decide)]
      have hX := Lib.hid hx
      have hY := Lib.hid hy
      have hE := Lib.hid he
      have hd' : (1000 : Int) < (distS (numS xs) (numS ys) : Nat) := by omega
      clear hx hy h0 he
      go_enter Tryd.func28, Tryd.ntmps28
      go_wp2_with (first
        | (go_at_call 58
           refine (refBoth_any A B n n c d xs ys w _ ha hb hn hn).mono ?_
           rintro e w1 ⟨rfl, q1, rfl⟩
           rw [hE.out])
        | (go_at_call 55
           refine (refDistance_any A B n n c d xs ys _ _ (ha.drewN q1) (hb.drewN q1) hn16 hn16 hX.out hY.out).mono ?_
           rintro e w2 ⟨rfl, rfl⟩))
      go_ret2
      exact RetL_nil (below_drewN (Below.refl _ _) q1)
  · have hb0 : (bothE xs ys != 0) = true := by simpa using he
    have hb1 : (bothE xs ys == 0) = false := by simpa using he
    rw [wayL, wayE_bad he, if_neg he]
    clear he
    go_enter Tryd.func28, Tryd.ntmps28
    go_wp2_with (first
      | (go_at_call 58
         refine (refBoth_any A B n m c d xs ys w _ ha hb hn hm).mono ?_
         rintro e w1 ⟨rfl, q1, rfl⟩))
    go_ret2
    exact RetL_nil (below_drewN (Below.refl _ _) q1)
set_option maxRecDepth 100000 in
set_option maxHeartbeats 1000000 in
theorem refLeads_ok (A B C : Option Addr) (n m c d f : Nat) (xs ys way : List Int) (w : World) (ha : RInts w w.heap.size A n xs) (hb : RInts w w.heap.size B n ys) (hc : RInts w w.heap.size C m way) (hn : n ≤ maxLen) (hm : m ≤ maxLen) (he : bothE xs ys = 0) :
    Calls Tryd.prog 30 #[.slice A n c, .slice B n d, .slice C m f] w (RetE (leadsE xs ys way) w) := by
  obtain ⟨-, hx, hy, k1, k2, hn16, hn0⟩ := both_pre ha hb he
  have hX := Lib.hid hx
  have hY := Lib.hid hy
  have hE := Lib.hid he
  have hWL := Lib.hid hc.len
  clear hx hy he k1 k2
  unfold maxLen at hm
  go_enter Tryd.func30, Tryd.ntmps30
  go_wp2_with (first
    | (go_at_call 58
       refine (refBoth_any A B n n c d xs ys w _ ha hb hn hn).mono ?_
       rintro e w1 ⟨rfl, q1, rfl⟩
       rw [hE.out]))
  go_loopw [0, 7, 8] (fun u ev i wr => ∃ (k : Nat) (er : Int) (A1 : Option Addr) (c1 : Nat) (cur : List Int), k ≤ m ∧ i = .int .i64 k ∧ ev = .int .i64 er ∧ u = .slice A1 n c1 ∧ RInts wr wr.heap.size A1 n cur ∧ Below w.heap.size w wr ∧ Hid (bin cur) ∧
      Hid ((er = 0 ∧ leadF xs way = leadF cur (way.drop k)) ∨ (er ≠ 0 ∧ leadsE xs ys way = er))) (fun _ _ i _ => m - (intOf i).toNat)
  case atStart => exact ⟨0, 0, A, c, xs, by omega, rfl, rfl, rfl, ha.drewN q1, below_drewN (Below.refl _ _) q1, hX, Lib.hid (Or.inl ⟨rfl, by rw [List.drop_zero]⟩)⟩
  case round =>
    obtain ⟨k, er, A1, c1, cur, hk, rfl, rfl, rfl, har, hbe, hbc, hor⟩ := hrel
    have hbr := (hb.below hbe).more hbe.size
    have hcr := (hc.below hbe).more hbe.size
    rcases hor.out with ⟨rfl, hF⟩ | ⟨h0, hLE⟩
    · have hFF := Lib.hid hF
      clear hF hor
      by_cases hlt : k < m
      · obtain ⟨ad, r, rfl, _, h1, hr⟩ := hcr.at_ hlt
        by_cases hs : stepE cur r = 0
        · obtain ⟨r0, r1, -⟩ := stepE_zero hs
          obtain ⟨K, rfl⟩ : ∃ K : Nat, r = K := ⟨r.toNat, by omega⟩
          have hKn : K < n := by rw [har.len] at r1; omega
          have hN : Hid (leadF xs way = leadF (moveS cur K) (way.drop (k + 1))) := Lib.hid (by rw [hFF.out, leadF_ok hr.out hs, Int.toNat_natCast])
          have hS := Lib.hid hs
          clear hs r0 r1
          go_wp2_with (first
            | (go_at_call 63
               refine (refStep_any A1 n c1 K cur _ _ har hn16).mono ?_
               rintro e w2 ⟨rfl, rfl⟩
               rw [hS.out])
            | (go_at_call 61
               refine (refMoved_any A1 n c1 K cur _ har hn16 hKn hbc.out).mono ?_
               rintro e w6 ⟨A6, c6, rfl, hr6, hb6⟩))
          go_roundw
          case rel => exact ⟨k + 1, 0, A6, c6, moveS cur K, by omega, by go_num, rfl, rfl, hr6, hbe.trans (hb6.mono hbe.size), Lib.hid (moveS_bin hbc.out K), Lib.hid (Or.inl ⟨rfl, hN.out⟩)⟩
          case measure => simp [intOf]; omega
        · have hN := Lib.hid (leadsE_step hE.out hFF.out hr.out hs)
          have hs0 : (stepE cur r == 0) = false := by simpa using hs
          have hS := Lib.hid hs
          clear hs
          go_wp2_with (first
            | (go_at_call 63
               refine (refStep_any A1 n c1 r cur _ _ har hn16).mono ?_
               rintro e w2 ⟨rfl, rfl⟩))
          go_roundw
          case rel => exact ⟨k + 1, stepE cur r, A1, c1, cur, by omega, by go_num, rfl, rfl, har, hbe, hbc, Lib.hid (Or.inr ⟨hS.out, hN.out⟩)⟩
          case measure => simp [intOf]; omega
      · obtain rfl : k = m := by omega
        have hN := Lib.hid (leadsE_end (cur := cur) hE.out (by rw [hFF.out, hWL.out]))
        by_cases hq : numS cur = numS ys
        · have hN : Hid (leadsE xs ys way = 0) := Lib.hid (by rw [hN.out, if_pos hq])
          have hz : Hid (distS (numS cur) (numS ys) = 0) := Lib.hid (by unfold distS; omega)
          clear hq
          go_wp2_with (first
            | (go_at_call 55
               refine (refDistance_any A1 B n n c1 d cur ys wr _ har hbr hn16 hn16 hbc.out hY.out).mono ?_
               rintro e w1 ⟨rfl, rfl⟩
               rw [hz.out]))
          go_ret
          exact ⟨by rw [hN.out]; rfl, hbe⟩
        · have hN : Hid (leadsE xs ys way = 14) := Lib.hid (by rw [hN.out, if_neg hq])
          have hz : (0 : Int) < (distS (numS cur) (numS ys) : Nat) := by unfold distS; omega
          clear hq
          go_wp2_with (first
            | (go_at_call 55
               refine (refDistance_any A1 B n n c1 d cur ys wr _ har hbr hn16 hn16 hbc.out hY.out).mono ?_
               rintro e w1 ⟨rfl, rfl⟩))
          go_ret
          exact ⟨by rw [hN.out]; rfl, hbe⟩
    · have he0 : (er == 0) = false := by simpa using h0
      have hLL := Lib.hid hLE
      clear hLE h0 hor
      by_cases hlt : k < m
      · go_wp2_with (fail)
        go_ret
        exact ⟨by rw [hLL.out]; rfl, hbe⟩
      · go_wp2_with (fail)
        go_ret
        exact ⟨by rw [hLL.out]; rfl, hbe⟩
set_option maxHeartbeats 1000000 in
theorem refLeads_any (A B C : Option Addr) (n p m c d f : Nat) (xs ys way : List Int) (w : World) (ha : RInts w w.heap.size A n xs) (hb : RInts w w.heap.size B p ys) (hc : RInts w w.heap.size C m way) (hn : n ≤ maxLen) (hp : p ≤ maxLen) (hm : m ≤ maxLen) :
    Calls Tryd.prog 30 #[.slice A n c, .slice B p d, .slice C m f] w (RetE (leadsE xs ys way) w) := by
  by_cases he : bothE xs ys = 0
  · obtain ⟨rfl, _⟩ := both_pre ha hb he
    exact refLeads_ok A B C n m c d f xs ys way w ha hb hc hn hm he
  · rw [leadsE_bad he]
    have hb1 : (bothE xs ys == 0) = false := by simpa using he
    clear he
    unfold maxLen at hm
    go_enter Tryd.func30, Tryd.ntmps30
    go_wp2_with (first
      | (go_at_call 58
         refine (refBoth_any A B n p c d xs ys w _ ha hb hn hp).mono ?_
         rintro e w1 ⟨rfl, q1, rfl⟩))
    go_loopw [0, 7, 8] (fun u ev i wr => i = .int .i64 0 ∧ ev = .int .i64 (bothE xs ys) ∧ wr = w.drewN q1) (fun _ _ _ _ => 0)
    case atStart => exact ⟨rfl, rfl, rfl⟩
    case round =>
      obtain ⟨rfl, rfl, rfl⟩ := hrel
      by_cases hlt : 0 < m
      · go_wp2_with (fail)
        go_ret
        exact ⟨rfl, below_drewN (Below.refl _ _) q1⟩
      · go_wp2_with (fail)
        go_ret
        exact ⟨rfl, below_drewN (Below.refl _ _) q1⟩
end Go.Proofs.YtjhcemhnnkcjaaaDoor
-- the text RefTimes
namespace Go.Proofs.YtjhcemhnnkcjaaaDoor
open Go.RowKit
theorem intArr_at' {xs : List Int} {k : Nat} {x : Int} (h : xs[k]? = some x) : (intArr xs)[k]? = some (.int .i64 x) := by rw [intArr_at, h]; rfl
/-- one ring of one move more: its count, and whether it is the ring that is moved -/
theorem timesM_inc {r lo n k : Nat} (hk : k < r) (hlo : lo ≤ n) : ∃ (V x y : Nat), V ≤ n ∧ (timesM r lo n k)[k]? = some (V : Int) ∧ (grayS r n)[k]? = some (x : Int) ∧ (grayS r (n + 1))[k]? = some (y : Int) ∧
    (x = y → timesM r lo n (k + 1) = timesM r lo n k) ∧ (x ≠ y → (timesM r lo n k).set k ((V + 1 : Nat) : Int) = timesM r lo n (k + 1)) := by
  have h1 := times_at (k := k) hlo
  have hV : ((n / 2 ^ k - lo / 2 ^ k) - (n / 2 ^ (k + 1) - lo / 2 ^ (k + 1))) ≤ n := Nat.le_trans (Nat.sub_le _ _) (Nat.le_trans (Nat.sub_le _ _) (Nat.div_le_self _ _))
  refine ⟨_, _, _, hV, by rw [timesM_at hk, timesN_at hk], grayS_at r n k hk, grayS_at r (n + 1) k hk, fun e => ?_, fun e => ?_⟩
  · rw [if_pos e] at h1
    exact timesM_skip hk (by rw [timesN_at hk, timesN_at hk, h1]; rfl)
  · rw [if_neg e] at h1
    exact timesM_set hk (by rw [timesN_at hk, h1])
theorem refPlace_B (r n : Nat) (hr : r ≤ 16) (hr0 : r ≠ 0) (hn : n < 65536) (y : Int) (hy : y = (n : Int)) (w : World) :
    Calls Tryd.prog 54 #[.int .i64 r, .int .i64 y] w fun e w' => ∃ g, e = .returned (.slice (some ⟨g, 0, none⟩) r r) ∧ Blk w' g 3 (intArr (grayS r n)) ∧ w.heap.size ≤ g ∧ Below w.heap.size w w' := by
  subst hy; exact refPlace_blk r n hr hr0 hn w
set_option maxRecDepth 100000 in
set_option maxHeartbeats 1000000 in
theorem refTimes_ok (A B : Option Addr) (n c d : Nat) (xs ys : List Int) (w : World) (ha : RInts w w.heap.size A n xs) (hb : RInts w w.heap.size B n ys) (hn : n ≤ maxLen) (he : bothE xs ys = 0) :
    Calls Tryd.prog 32 #[.slice A n c, .slice B n d] w (RetL (timesN n (min (numS xs) (numS ys)) (max (numS xs) (numS ys))) 0 w) := by
  obtain ⟨-, hx, hy, k1, k2, hn16, hn0⟩ := both_pre ha hb he
  have hX := Lib.hid hx
  have hY := Lib.hid hy
  have hE := Lib.hid he
  obtain ⟨a, hA⟩ : ∃ a, a = numS xs := ⟨_, rfl⟩
  obtain ⟨b, hB⟩ : ∃ b, b = numS ys := ⟨_, rfl⟩
  rw [← hA] at k1
  rw [← hB] at k2
  rw [← hA, ← hB]
  have hAA := Lib.hid hA
  have hBB := Lib.hid hB
  clear hx hy he hA hB
  have hmk := run_make_row' (P := Tryd.prog) 22 3 (.int .i64 0) 8 Tryd.underlying22 infoIr rfl .i64 .i64 n (by omega) (by omega)
  obtain ⟨lo, hlo⟩ : ∃ lo, lo = min a b := ⟨_, rfl⟩
  obtain ⟨hi, hhi⟩ : ∃ hi, hi = max a b := ⟨_, rfl⟩
  rw [← hlo, ← hhi]
  have hlh : lo ≤ hi := by omega
  have hi16 : hi < 65536 := by omega
  go_enter Tryd.func32, Tryd.ntmps32
  go_upto_region 5 with (first
    | (go_at_call 58
       refine (refBoth_any A B n n c d xs ys w _ ha hb hn hn).mono ?_
       rintro e w1 ⟨rfl, q1, rfl⟩
       rw [hE.out]))
  rw [intArr_made]
  go_cut [8, 9] from 10 (fun u v wx => u = .int .i64 (lo : Nat) ∧ v = .int .i64 (hi : Nat) ∧ Blk wx w.heap.size 3 (intArr (List.replicate n 0)) ∧ Below w.heap.size w wx)
  case first =>
    go_wp2_with (first
      | (go_at_call_of 51 (Value.slice A n c); refine (refNumber_any A n c xs _ w.heap.size (Reads.alloc (ha.drewN q1) (Nat.le_refl _) _) hn16 hX.out).mono ?_; rintro e w3 ⟨rfl, rfl⟩; rw [← hAA.out])
      | (go_at_call_of 51 (Value.slice B n d); refine (refNumber_any B n d ys _ w.heap.size (Reads.alloc (hb.drewN q1) (Nat.le_refl _) _) hn16 hY.out).mono ?_; rintro e w3 ⟨rfl, rfl⟩; rw [← hBB.out]))
    all_goals
      go_meet
      exact ⟨congrArg _ (by omega), congrArg _ (by omega), Blk.new _ _ _, (below_drewN (Below.refl _ _) q1).alloc (Nat.le_refl _) _⟩
  case rest =>
    obtain ⟨rfl, rfl, hB0, hBe0⟩ := hcut
    clear hlo hhi
    have hlenT := fun N => timesN_length n lo N
    go_wp2_with (fail)
    go_loopw [10] (fun i wr => ∃ N : Nat, lo ≤ N ∧ N ≤ hi ∧ i = .int .i64 N ∧ Blk wr w.heap.size 3 (intArr (timesN n lo N)) ∧ Below w.heap.size w wr) (fun i _ => hi - (intOf i).toNat)
    case atStart => exact ⟨lo, by omega, hlh, rfl, by rw [timesN_lo]; exact hB0, hBe0⟩
    case round =>
      clear hB0 hBe0
      obtain ⟨N, hN1, hN2, rfl, hO, hbe⟩ := hrel
      by_cases hlt : N < hi
      · have _t := hn
        go_wp2_with (first
          | (go_at_call 54
             clear _t
             refine (refPlace_blk n N hn16 hn0 (by omega) _).mono ?_
             rintro e w2 ⟨g1, rfl, hP1, hge1, hb2⟩
             have hO2 := hO.callee hb2
             have hbe2 := hbe.trans (hb2.mono hbe.size))
          | (go_at_call 54
             refine (refPlace_B n (N + 1) hn16 hn0 (by omega) _ (by omega) _).mono ?_
             rintro e w3 ⟨g2, rfl, hP2, hge2, hb3⟩
             have hO3 := hO2.callee hb3
             have hP13 := hP1.callee hb3
             have hbe3 := hbe2.trans (hb3.mono hbe2.size)))
        have hlt0 := hO.lt
        have hlt1 := hP1.lt
        have hne1 : g1 ≠ w.heap.size := by omega
        have hne2 : g2 ≠ w.heap.size := by have := hO2.lt; omega
        clear hO hO2 hbe hbe2 hb2 hb3 hge1 hge2 hP1 hlt0 hlt1
        go_loopw [13] (fun i wr => ∃ k : Nat, k ≤ n ∧ i = .int .i64 k ∧ Blk wr w.heap.size 3 (intArr (timesM n lo N k)) ∧ Blk wr g1 3 (intArr (grayS n N)) ∧ Blk wr g2 3 (intArr (grayS n (N + 1))) ∧ Below w.heap.size w wr) (fun i _ => n - (intOf i).toNat)
        case atStart => exact ⟨0, by omega, rfl, by rw [timesM_zero]; exact hO3, hP13, hP2, hbe3⟩
        case round =>
          clear hO3 hP13 hP2 hbe3
          obtain ⟨k, hk, rfl, hO, hP1, hP2, hbe⟩ := hrel
          by_cases hkn : k < n
          · obtain ⟨V, x, y, hV, hV1, hx, hy, hs, hd⟩ := timesM_inc hkn hN1
            have hcx : wr.cell? ⟨g1, k, none⟩ = some (.int .i64 (x : Int)) := by rw [hP1.cell, intArr_at' hx]
            have hcy : wr.cell? ⟨g2, k, none⟩ = some (.int .i64 (y : Int)) := by rw [hP2.cell, intArr_at' hy]
            have hV16 : V < 65536 := by omega
            by_cases hxy : x = y
            · subst hxy
              have hS := Lib.hid (hs rfl)
              clear hs hd hV1 hx hy
              go_wp2_with (fail)
              go_quiet (fail)
              go_wp2_with (fail)
              go_roundw
              case rel => exact ⟨k + 1, by omega, by go_num, by rw [hS.out]; exact hO.drewN _, hP1.drewN _, hP2.drewN _, below_drewN hbe _⟩
              case measure => simp [intOf]; omega
            · have hS := Lib.hid (hd hxy)
              have hVV := Lib.hid hV1
              have hxi : ((x : Int) == (y : Int)) = false := by simp; omega
              have hxi2 : ((x : Int) != (y : Int)) = true := by simp; omega
              clear hs hd hV1 hx hy
              go_wp2_with (fail)
              go_quiet (fail)
              have hO2 := hO.drewN nq
              have hP12 := hP1.drewN nq
              have hP22 := hP2.drewN nq
              have hbe2 := below_drewN hbe nq
              obtain ⟨wq, hwq⟩ : ∃ wq, wq = wr.drewN nq := ⟨_, rfl⟩
              rw [← hwq] at hO2 hP12 hP22 hbe2 ⊢
              clear hwq hcx hcy hO hP1 hP2 hbe
              have hco : wq.cell? ⟨w.heap.size, k, none⟩ = some (.int .i64 (V : Int)) := by rw [hO2.cell, intArr_at' hVV.out]
              have hfo := hO2.frozen k
              have hO3 := hO2.set_ k (.int .i64 ((V + 1 : Nat) : Int))
              rw [intArr_set, hS.out] at hO3
              have hP13 := hP12.far (p := ⟨w.heap.size, k, none⟩) hne1 (.int .i64 ((V + 1 : Nat) : Int))
              have hP23 := hP22.far (p := ⟨w.heap.size, k, none⟩) hne2 (.int .i64 ((V + 1 : Nat) : Int))
              have hbe3 := hbe2.setCell (p := ⟨w.heap.size, k, none⟩) (Nat.le_refl _) (.int .i64 ((V + 1 : Nat) : Int))
              go_wp2_with (fail)
              go_roundw
              case rel => exact ⟨k + 1, by omega, by go_num, hO3, hP13, hP23, hbe3⟩
              case measure => simp [intOf]; omega
          · obtain rfl : k = n := by omega
            rw [timesM_end] at hO
            go_wp2_with (fail)
            go_roundw
            case rel => exact ⟨N + 1, by omega, by omega, by go_num, hO, hbe⟩
            case measure => simp [intOf]; omega
      · obtain rfl : N = hi := by omega
        go_wp2_with (fail)
        go_ret2
        exact ⟨_, _, _, rfl, RInts.of_blk hO (timesN_length _ _ _), by omega, hbe⟩
set_option maxHeartbeats 400000 in
theorem refTimes_any (A B : Option Addr) (n m c d : Nat) (xs ys : List Int) (w : World) (ha : RInts w w.heap.size A n xs) (hb : RInts w w.heap.size B m ys) (hn : n ≤ maxLen) (hm : m ≤ maxLen) :
    Calls Tryd.prog 32 #[.slice A n c, .slice B m d] w (RetL (timesL xs ys) (bothE xs ys) w) := by
  by_cases he : bothE xs ys = 0
  · obtain ⟨rfl, _⟩ := both_pre ha hb he
    rw [timesL, if_pos he, he, ha.len]
    exact refTimes_ok A B n c d xs ys w ha hb hn he
  · have hb0 : (bothE xs ys != 0) = true := by simpa using he
    rw [timesL, if_neg he]
    clear he
    go_enter Tryd.func32, Tryd.ntmps32
    go_wp2_with (first
      | (go_at_call 58
         refine (refBoth_any A B n m c d xs ys w _ ha hb hn hm).mono ?_
         rintro e w1 ⟨rfl, q1, rfl⟩))
    go_ret2
    exact RetL_nil (below_drewN (Below.refl _ _) q1)
end Go.Proofs.YtjhcemhnnkcjaaaDoor
-- the text RefFar
namespace Go.Proofs.YtjhcemhnnkcjaaaDoor
open Go.RowKit
theorem grayS_zero_num (n : Nat) : numS (grayS n 0) = 0 := numS_grayS n 0 (Nat.pow_pos (by omega))
theorem place_zero (r : Nat) (hr : r ≤ 16) (hr0 : r ≠ 0) (w : World) :
    Calls Tryd.prog 54 #[.int .i64 r, .int .i64 0] w fun e w' => ∃ g, e = .returned (.slice (some ⟨g, 0, none⟩) r r) ∧ RInts w' w'.heap.size (some ⟨g, 0, none⟩) r (grayS r 0) ∧ Below w.heap.size w w' := refPlace_any r 0 hr hr0 (by omega) w
set_option maxRecDepth 100000 in
set_option maxHeartbeats 400000 in
theorem refFar_ok (A : Option Addr) (n c : Nat) (xs : List Int) (w : World) (ha : RInts w w.heap.size A n xs) (hn : n ≤ maxLen) (hx : chk xs = 0) :
    Calls Tryd.prog 21 #[.slice A n c] w (RetLI (if 2 ^ n - 1 - numS xs < numS xs then grayS n 0 else grayS n (2 ^ n - 1)) (if 2 ^ n - 1 - numS xs < numS xs then numS xs else 2 ^ n - 1 - numS xs : Nat) 0 w) := by
  have hz := chk_zero hx
  rw [ha.len] at hz
  have hX := Lib.hid hx
  have hL := Lib.hid ha.len
  have hBx := Lib.hid (bin_of_all hz.2.2)
  have hn16 := hz.2.1
  have hn0 := hz.1
  have h16 := pow16 hn16
  have hlt := numS_lt xs
  rw [hL.out] at hlt
  have hw0 : wrap64 (2 ^ n) = ((2 ^ n : Nat) : Int) := wrap64_pow (by omega)
  have hw0' : IntKind.i64.wrap (2 ^ n) = ((2 ^ n : Nat) : Int) := by rw [IntKind.wrap_i64]; have := wrap64_pow (k := n) (by omega); rw [← this, wrap64]
  obtain ⟨T, hT⟩ : ∃ T, T = 2 ^ n - 1 := ⟨_, rfl⟩
  have hT1 : T < 65536 := by omega
  have hNT : numS xs ≤ T := by omega
  have hnl := Lib.hid (numS_grayS n T (by rw [hT]; have : 0 < 2 ^ n := Nat.pow_pos (by omega); omega))
  have hpc : (2 : Int) ^ n = ((2 ^ n : Nat) : Int) := by push_cast; rfl
  have hw1 : IntKind.i64.wrap ((2 : Int) ^ n - 1) = (T : Int) := by rw [hpc, IntWalk.i64_in _ (by omega)]; omega
  have hw2 : (2 : Int) ^ n - 1 = (T : Int) := by rw [hpc]; omega
  rw [← hT]
  obtain ⟨N, hN⟩ : ∃ N, N = numS xs := ⟨_, rfl⟩
  rw [← hN] at hNT ⊢
  have HN := Lib.hid hN
  have HW := Lib.hid (show _ ∧ _ ∧ _ ∧ IntKind.i64.wrap (T : Int) = T from ⟨hw0, hw0', hw2, by rw [IntWalk.i64_in _ (by omega)]⟩)
  clear hx hz hT hN hlt h16 hpc hw0 hw0' hw1 hw2
  obtain ⟨ZL, hZL⟩ : ∃ Z, Z = if T - N < N then grayS n 0 else grayS n T := ⟨_, rfl⟩
  obtain ⟨ZN, hZN⟩ : ∃ Z, Z = if T - N < N then N else T - N := ⟨_, rfl⟩
  rw [← hZL, ← hZN]
  have HZL := Lib.hid hZL
  have HZN := Lib.hid hZN
  clear hZL hZN
  go_enter Tryd.func21, Tryd.ntmps21
  go_upto_region 4 with (first
    | (go_at_call 47
       refine (refCheck_any A n c xs w _ ha hn).mono ?_
       rintro e w1 ⟨rfl, q1, rfl⟩
       rw [hX.out]))
  go_cut [6, 7] from 8 (fun u v wx => ∃ (g1 g2 : Nat), u = .slice (some ⟨g1, 0, none⟩) n n ∧ v = .slice (some ⟨g2, 0, none⟩) n n ∧ RInts wx wx.heap.size (some ⟨g1, 0, none⟩) n (grayS n 0) ∧ RInts wx wx.heap.size (some ⟨g2, 0, none⟩) n (grayS n T) ∧ Below w.heap.size w wx)
  case first =>
    obtain ⟨hw0, hw0', hw2, hw3⟩ := HW.out
    have _t := hn
    go_region_with (first
      | (go_at_call 54
         clear _t
         refine (place_zero n hn16 hn0 _).mono ?_
         rintro e w2 ⟨g1, rfl, hr1, hb1⟩)
      | (go_at_call 54
         refine (refPlace_any n T hn16 hn0 hT1 _).mono ?_
         rintro e w3 ⟨g2, rfl, hr2, hb2⟩
         have hr1' := (hr1.below hb2).more hb2.size))
    all_goals
      go_wp2_with (fail)
      go_meet
      exact ⟨_, _, rfl, rfl, by assumption, by assumption, ((below_drewN (Below.refl _ w) q1).drew.trans hb1).trans (hb2.mono hb1.size)⟩
  case rest =>
    obtain ⟨g1, g2, rfl, rfl, hr1, hr2, hbe⟩ := hcut
    have har := (ha.below hbe).more hbe.size
    have d1 : Hid (distS (numS xs) (numS (grayS n 0)) = N) := Lib.hid (by rw [grayS_zero_num, ← HN.out]; unfold distS; omega)
    have d2 : Hid (distS (numS xs) (numS (grayS n T)) = T - N) := Lib.hid (by rw [hnl.out, ← HN.out]; unfold distS; omega)
    have hg0 := Lib.hid (grayS_bin n 0)
    have hgT := Lib.hid (grayS_bin n T)
    by_cases hc : T - N < N
    · have hZL : Hid (ZL = grayS n 0) := Lib.hid (by rw [HZL.out, if_pos hc])
      have hZN : Hid (ZN = N) := Lib.hid (by rw [HZN.out, if_pos hc])
      have hc2 : ((T - N : Nat) : Int) < (N : Int) := by omega
      clear HZL HZN
      have _t := hn
      have _s := hn
      go_wp2_with (first
        | (go_at_call 55
           clear _t
           refine (refDistance_any A _ n n c n xs (grayS n 0) wc _ har hr1 hn16 hn16 hBx.out hg0.out).mono ?_
           rintro e w1 ⟨rfl, rfl⟩
           rw [d1.out])
        | (go_at_call 55
           clear _s
           refine (refDistance_any A _ n n c n xs (grayS n T) _ _ har hr2 hn16 hn16 hBx.out hgT.out).mono ?_
           rintro e w1 ⟨rfl, rfl⟩
           rw [d2.out])
        | (go_at_call 55
           refine (refDistance_any A _ n n c n xs (grayS n 0) _ _ har hr1 hn16 hn16 hBx.out hg0.out).mono ?_
           rintro e w1 ⟨rfl, rfl⟩
           rw [d1.out]))
      go_ret3
      exact ⟨_, _, _, by rw [hZN.out]; rfl, by rw [hZL.out]; exact hr1, by omega, hbe⟩
    · have hZL : Hid (ZL = grayS n T) := Lib.hid (by rw [HZL.out, if_neg hc])
      have hZN : Hid (ZN = T - N) := Lib.hid (by rw [HZN.out, if_neg hc])
      have hc2 : (N : Int) ≤ ((T - N : Nat) : Int) := by omega
      have hc3 : N ≤ T - N := by omega
      clear HZL HZN
      have _t := hn
      have _s := hn
      go_wp2_with (first
        | (go_at_call 55
           clear _t
           refine (refDistance_any A _ n n c n xs (grayS n 0) _ _ har hr1 hn16 hn16 hBx.out hg0.out).mono ?_
           rintro e w1 ⟨rfl, rfl⟩
           rw [d1.out])
        | (go_at_call 55
           clear _s
           refine (refDistance_any A _ n n c n xs (grayS n T) _ _ har hr2 hn16 hn16 hBx.out hgT.out).mono ?_
           rintro e w1 ⟨rfl, rfl⟩
           rw [d2.out])
        | (go_at_call 55
           refine (refDistance_any A _ n n c n xs (grayS n T) _ _ har hr2 hn16 hn16 hBx.out hgT.out).mono ?_
           rintro e w1 ⟨rfl, rfl⟩
           rw [d2.out]))
      go_ret3
      exact ⟨_, _, _, by rw [hZN.out]; rfl, by rw [hZL.out]; exact hr2, by omega, hbe⟩
set_option maxHeartbeats 400000 in
theorem refFar_any (A : Option Addr) (n c : Nat) (xs : List Int) (w : World) (ha : RInts w w.heap.size A n xs) (hn : n ≤ maxLen) :
    Calls Tryd.prog 21 #[.slice A n c] w (RetLI (farL xs) (farN xs) (chk xs) w) := by
  by_cases hx : chk xs = 0
  · rw [farL, farN, hx, if_pos rfl, if_pos rfl, ha.len]
    exact refFar_ok A n c xs w ha hn hx
  · have hL : farL xs = [] := by rw [farL, if_neg hx]
    have hN : farN xs = 0 := by rw [farN, if_neg hx]
    rw [hL, hN]
    have hb0 : (chk xs != 0) = true := by simpa using hx
    clear hx hL hN
    go_enter Tryd.func21, Tryd.ntmps21
    go_wp2_with (first
      | (go_at_call 47
         refine (refCheck_any A n c xs w _ ha hn).mono ?_
         rintro e w1 ⟨rfl, q1, rfl⟩))
    go_ret3
    exact RetLI_nil (below_drewN (Below.refl _ _) q1)
end Go.Proofs.YtjhcemhnnkcjaaaDoor
-- the text RefTog
namespace Go.Proofs.YtjhcemhnnkcjaaaDoor
open Go.RowKit
theorem refCheck_E (A : Option Addr) (n c : Nat) (xs : List Int) (w : World) (ha : RInts w w.heap.size A n xs) (hn : n ≤ maxLen) :
    Calls Tryd.prog 47 #[.slice A n c] w (RetE (chk xs) w) := (refCheck_any A n c xs w _ ha hn).mono fun _ _ ⟨h, q, e⟩ => ⟨h, by rw [e]; exact below_drewN (Below.refl _ _) q⟩
theorem pairC_0 {w : World} {g : Nat} {t : TypeId} {A B : Option Addr} {n c m d : Nat} (h : Blk w g t (pairC A n c B m d)) : w.cell? ⟨g, 0, none⟩ = some (.slice A n c) ∧ w.cell? ⟨g, 1, none⟩ = some (.slice B m d) := ⟨by rw [h.cell]; rfl, by rw [h.cell]; rfl⟩
theorem info_pairR (A : Option Addr) (n c : Nat) (B : Option Addr) (m d : Nat) : (Tryd.prog.info? 41).map (·.size) = some (pairC A n c B m d).size := by
  show _ = some 2
  kernel_rfl
set_option maxHeartbeats 400000 in
theorem refPair_any (A B : Option Addr) (n m c d : Nat) (xs ys : List Int) (w : World) (ha : RInts w w.heap.size A n xs) (hb : RInts w w.heap.size B m ys) (hn : n ≤ maxLen) (hm : m ≤ maxLen) :
    Calls Tryd.prog 66 #[.agg (pairC A n c B m d)] w (RetE (pairE xs ys) w) := by
  have hL1 := ha.len
  have hL2 := hb.len
  by_cases h1 : chk xs = 0
  · by_cases h2 : chk ys = 0
    · have hX := Lib.hid h1
      have hY := Lib.hid h2
      by_cases h3 : n ≤ 6
      · by_cases h4 : m ≤ 6
        · have hE := Lib.hid (pairE_4 h1 h2 (by omega) (by omega))
          have h3' : (n : Int) ≤ 6 := by omega
          have h4' : (m : Int) ≤ 6 := by omega
          clear h1 h2
          go_enter Tryd.func66, Tryd.ntmps66
          have _t := hn
          go_wp2_with (first
            | (with_reducible show wpList _ _ _ (⟨some 1, .box 41 _, _, _, _, _⟩ :: _) _ _
               refine wpList_box_blk rfl 41 _ rfl (pairC A n c B m d) rfl ?_
               intro w0 g1 hP1 hg0 hs0
               have hBe0 : Below w.heap.size w w0 := below_none (Below.refl _ _) hg0 (Nat.le_refl _)
               obtain ⟨c0, c1⟩ := pairC_0 hP1
               clear hg0 hs0)
            | (go_at_call 47
               clear _t
               refine (refCheck_E A n c xs w0 ((ha.below hBe0).more hBe0.size) hn).mono ?_
               rintro e w1 ⟨rfl, hb1⟩
               have hBe1 := hBe0.trans (hb1.mono hBe0.size)
               have hP2 := hP1.callee hb1
               obtain ⟨c2, c3⟩ := pairC_0 hP2
               clear c0 c1
               rw [hX.out])
            | (go_at_call 47
               refine (refCheck_E B m d ys w1 ((hb.below hBe1).more hBe1.size) hm).mono ?_
               rintro e w2 ⟨rfl, hb2⟩
               have hBe2 := hBe1.trans (hb2.mono hBe1.size)
               have hP3 := hP2.callee hb2
               obtain ⟨c4, c5⟩ := pairC_0 hP3
               clear c2 c3
               rw [hY.out]))
          go_ret
          exact ⟨by rw [hE.out]; rfl, hBe2⟩
        · have hE := Lib.hid (pairE_3 h1 h2 (by omega))
          have h3' : (n : Int) ≤ 6 := by omega
          have h4' : (6 : Int) < m := by omega
          clear h1 h2
          go_enter Tryd.func66, Tryd.ntmps66
          have _t := hn
          go_wp2_with (first
            | (with_reducible show wpList _ _ _ (⟨some 1, .box 41 _, _, _, _, _⟩ :: _) _ _
               refine wpList_box_blk rfl 41 _ rfl (pairC A n c B m d) rfl ?_
               intro w0 g1 hP1 hg0 hs0
               have hBe0 : Below w.heap.size w w0 := below_none (Below.refl _ _) hg0 (Nat.le_refl _)
               obtain ⟨c0, c1⟩ := pairC_0 hP1
               clear hg0 hs0)
            | (go_at_call 47
               clear _t
               refine (refCheck_E A n c xs w0 ((ha.below hBe0).more hBe0.size) hn).mono ?_
               rintro e w1 ⟨rfl, hb1⟩
               have hBe1 := hBe0.trans (hb1.mono hBe0.size)
               have hP2 := hP1.callee hb1
               obtain ⟨c2, c3⟩ := pairC_0 hP2
               clear c0 c1
               rw [hX.out])
            | (go_at_call 47
               refine (refCheck_E B m d ys w1 ((hb.below hBe1).more hBe1.size) hm).mono ?_
               rintro e w2 ⟨rfl, hb2⟩
               have hBe2 := hBe1.trans (hb2.mono hBe1.size)
               have hP3 := hP2.callee hb2
               obtain ⟨c4, c5⟩ := pairC_0 hP3
               clear c2 c3
               rw [hY.out]))
          go_ret
          exact ⟨by rw [hE.out]; rfl, hBe2⟩
      · have hE := Lib.hid (pairE_3 h1 h2 (by omega))
        have h3' : (6 : Int) < n := by omega
        clear h1 h2
        go_enter Tryd.func66, Tryd.ntmps66
        have _t := hn
        go_wp2_with (first
          | (with_reducible show wpList _ _ _ (⟨some 1, .box 41 _, _, _, _, _⟩ :: _) _ _
             refine wpList_box_blk rfl 41 _ rfl (pairC A n c B m d) rfl ?_
             intro w0 g1 hP1 hg0 hs0
             have hBe0 : Below w.heap.size w w0 := below_none (Below.refl _ _) hg0 (Nat.le_refl _)
             obtain ⟨c0, c1⟩ := pairC_0 hP1
             clear hg0 hs0)
          | (go_at_call 47
             clear _t
             refine (refCheck_E A n c xs w0 ((ha.below hBe0).more hBe0.size) hn).mono ?_
             rintro e w1 ⟨rfl, hb1⟩
             have hBe1 := hBe0.trans (hb1.mono hBe0.size)
             have hP2 := hP1.callee hb1
             obtain ⟨c2, c3⟩ := pairC_0 hP2
             clear c0 c1
             rw [hX.out])
          | (go_at_call 47
             refine (refCheck_E B m d ys w1 ((hb.below hBe1).more hBe1.size) hm).mono ?_
             rintro e w2 ⟨rfl, hb2⟩
             have hBe2 := hBe1.trans (hb2.mono hBe1.size)
             have hP3 := hP2.callee hb2
             obtain ⟨c4, c5⟩ := pairC_0 hP3
             clear c2 c3
             rw [hY.out]))
        go_ret
        exact ⟨by rw [hE.out]; rfl, hBe2⟩
    · have hE := Lib.hid (pairE_2 h1 h2)
      have hX := Lib.hid h1
      have hy0 : (chk ys == 0) = false := by simpa using h2
      clear h1 h2
      go_enter Tryd.func66, Tryd.ntmps66
      have _t := hn
      go_wp2_with (first
        | (with_reducible show wpList _ _ _ (⟨some 1, .box 41 _, _, _, _, _⟩ :: _) _ _
           refine wpList_box_blk rfl 41 _ rfl (pairC A n c B m d) rfl ?_
           intro w0 g1 hP1 hg0 hs0
           have hBe0 : Below w.heap.size w w0 := below_none (Below.refl _ _) hg0 (Nat.le_refl _)
           obtain ⟨c0, c1⟩ := pairC_0 hP1
           clear hg0 hs0)
        | (go_at_call 47
           clear _t
           refine (refCheck_E A n c xs w0 ((ha.below hBe0).more hBe0.size) hn).mono ?_
           rintro e w1 ⟨rfl, hb1⟩
           have hBe1 := hBe0.trans (hb1.mono hBe0.size)
           have hP2 := hP1.callee hb1
           obtain ⟨c2, c3⟩ := pairC_0 hP2
           clear c0 c1
           rw [hX.out])
        | (go_at_call 47
           refine (refCheck_E B m d ys w1 ((hb.below hBe1).more hBe1.size) hm).mono ?_
           rintro e w2 ⟨rfl, hb2⟩
           have hBe2 := hBe1.trans (hb2.mono hBe1.size)
           have hP3 := hP2.callee hb2
           obtain ⟨c4, c5⟩ := pairC_0 hP3
           clear c2 c3))
      go_ret
      exact ⟨by rw [hE.out]; rfl, hBe2⟩
  · have hE := Lib.hid (pairE_1 (ys := ys) h1)
    have hx0 : (chk xs == 0) = false := by simpa using h1
    clear h1
    go_enter Tryd.func66, Tryd.ntmps66
    have _t := hn
    go_wp2_with (first
      | (with_reducible show wpList _ _ _ (⟨some 1, .box 41 _, _, _, _, _⟩ :: _) _ _
         refine wpList_box_blk rfl 41 _ rfl (pairC A n c B m d) rfl ?_
         intro w0 g1 hP1 hg0 hs0
         have hBe0 : Below w.heap.size w w0 := below_none (Below.refl _ _) hg0 (Nat.le_refl _)
         obtain ⟨c0, c1⟩ := pairC_0 hP1
         clear hg0 hs0)
      | (go_at_call 47
         clear _t
         refine (refCheck_E A n c xs w0 ((ha.below hBe0).more hBe0.size) hn).mono ?_
         rintro e w1 ⟨rfl, hb1⟩
         have hBe1 := hBe0.trans (hb1.mono hBe0.size)
         have hP2 := hP1.callee hb1
         obtain ⟨c2, c3⟩ := pairC_0 hP2
         clear c0 c1))
    go_ret
    exact ⟨by rw [hE.out]; rfl, hBe1⟩
set_option maxHeartbeats 400000 in
theorem refOpens_any (y z : Int) (a m : Nat) (hy : y = (a : Int)) (hz : z = (m : Int)) (ha : a < 65536) (hm : m < 65536) (w : World) :
    Calls Tryd.prog 72 #[.int .i64 y, .int .i64 z] w fun e w' => e = .returned (.bool (opensN a m)) ∧ w' = w := by
  subst hy hz
  by_cases h : a ≤ m
  · have ht : ((m : Int) - (a : Int)).tmod 2 = (((m - a) % 2 : Nat) : Int) := by rw [Int.tmod_eq_emod_of_nonneg (by omega)]; omega
    have hO : opensN a m = ((((m - a) % 2 : Nat) : Int) == 0) := by
      rw [Bool.eq_iff_iff]; simp [opensN, h]; omega
    rw [hO]
    obtain ⟨r, hr⟩ : ∃ r, r = (m - a) % 2 := ⟨_, rfl⟩
    rw [← hr] at ht ⊢
    clear hO hr
    go_enter Tryd.func72, Tryd.ntmps72
    go_wp2_with (fail)
    go_ret
    exact ⟨rfl, rfl⟩
  · have hO : opensN a m = false := by simp [opensN, h]
    rw [hO]
    clear hO
    go_enter Tryd.func72, Tryd.ntmps72
    go_wp2_with (fail)
    go_ret
    exact ⟨rfl, rfl⟩
theorem few_small {a b : Nat} (ha : a < 64) (hb : b < 64) : fewN a b < 200 := by unfold fewN; split <;> omega
theorem numS_6 {xs : List Int} {n : Nat} (h : xs.length = n) (hn : n ≤ 6) : numS xs < 64 := by
  have h1 := numS_lt xs
  have h2 : 2 ^ xs.length ≤ 2 ^ 6 := Nat.pow_le_pow_right (by omega) (by omega)
  have h3 : (2 : Nat) ^ 6 = 64 := rfl
  omega
set_option maxRecDepth 100000 in
set_option maxHeartbeats 400000 in
theorem refTogether_any (A B : Option Addr) (n m c d : Nat) (xs ys : List Int) (w : World) (ha : RInts w w.heap.size A n xs) (hb : RInts w w.heap.size B m ys) (hn : n ≤ 6) (hm : m ≤ 6) (hx : bin xs) (hy : bin ys) :
    Calls Tryd.prog 67 #[.agg (pairC A n c B m d)] w fun e w' => e = .returned (.int .i64 (fewN (numS xs) (numS ys) : Nat)) ∧ Below w.heap.size w w' := by
  have ka := numS_6 ha.len hn
  have kb := numS_6 hb.len hm
  obtain ⟨a, hA⟩ : ∃ a, a = numS xs := ⟨_, rfl⟩
  obtain ⟨b, hB⟩ : ∃ b, b = numS ys := ⟨_, rfl⟩
  rw [← hA] at ka
  rw [← hB] at kb
  rw [← hA, ← hB]
  have hff := few_first a b
  have hFs := few_small ka kb
  obtain ⟨F, hF⟩ : ∃ F, F = fewN a b := ⟨_, rfl⟩
  rw [← hF] at hff hFs ⊢
  have hF1 := Lib.hid hff.1
  have hF2 := Lib.hid hff.2
  have hX := Lib.hid hx
  have hY := Lib.hid hy
  have hAA := Lib.hid hA
  have hBB := Lib.hid hB
  clear hff hF hx hy hA hB
  go_enter Tryd.func67, Tryd.ntmps67
  go_wp2_with (first
    | (with_reducible show wpList _ _ _ (⟨some 1, .box 41 _, _, _, _, _⟩ :: _) _ _
       refine wpList_box_blk rfl 41 _ rfl (pairC A n c B m d) rfl ?_
       intro w0 g1 hP1 hg0 hs0
       have hBe0 : Below w.heap.size w w0 := below_none (Below.refl _ _) hg0 (Nat.le_refl _)
       obtain ⟨c0, c1⟩ := pairC_0 hP1
       have ha0 := (ha.below hBe0).more hBe0.size
       have hb0 := (hb.below hBe0).more hBe0.size
       clear hg0 hs0 hP1))
  go_loop [3] (fun i => ∃ k : Nat, k ≤ F ∧ i = .int .i64 k) (fun i => F - (intOf i).toNat)
  case atStart => exact ⟨0, by omega, rfl⟩
  case round =>
    obtain ⟨k, hk, rfl⟩ := hrel
    have hd1 : ((k : Int) + 1).tdiv 2 = (((k + 1) / 2 : Nat) : Int) := by rw [Int.tdiv_eq_ediv_of_nonneg (by omega)]; omega
    have hd2 : (k : Int).tdiv 2 = ((k / 2 : Nat) : Int) := by rw [Int.tdiv_eq_ediv_of_nonneg (by omega)]; omega
    obtain ⟨p, hp⟩ : ∃ p, p = (k + 1) / 2 := ⟨_, rfl⟩
    obtain ⟨q, hq⟩ : ∃ q, q = k / 2 := ⟨_, rfl⟩
    have hp16 : p < 200 := by omega
    have hq16 : q < 200 := by omega
    rw [← hp] at hd1
    rw [← hq] at hd2
    rcases Nat.lt_or_eq_of_le hk with hlt | rfl
    · have hno := hF2.out k hlt
      rw [← hp, ← hq] at hno
      clear hp hq
      cases h1 : opensN a p with
      | false =>
        have hO1 := Lib.hid h1
        clear h1 hno
        go_wp2_with (first
          | (go_at_call 51
             refine (refNumber_any A n c xs w0 _ ha0 (by omega) hX.out).mono ?_
             rintro e w1 ⟨rfl, rfl⟩
             rw [← hAA.out])
          | (go_at_call 72
             refine (refOpens_any _ _ a p rfl rfl (by omega) (by omega) _).mono ?_
             rintro e w1 ⟨rfl, rfl⟩
             rw [hO1.out]))
        go_round
        case rel => exact ⟨k + 1, by omega, by go_num⟩
        case measure => simp [intOf]; omega
      | true =>
        have hO1 := Lib.hid h1
        have hO2 : Hid (opensN b q = false) := Lib.hid (by rw [h1] at hno; simpa using hno)
        clear h1 hno
        have _t := hn
        have _s := hn
        go_wp2_with (first
          | (go_at_call 51
             clear _t
             refine (refNumber_any A n c xs w0 _ ha0 (by omega) hX.out).mono ?_
             rintro e w1 ⟨rfl, rfl⟩
             rw [← hAA.out])
          | (go_at_call 72
             clear _s
             refine (refOpens_any _ _ a p rfl rfl (by omega) (by omega) _).mono ?_
             rintro e w1 ⟨rfl, rfl⟩
             rw [hO1.out])
          | (go_at_call 51
             refine (refNumber_any B m d ys _ _ hb0 (by omega) hY.out).mono ?_
             rintro e w1 ⟨rfl, rfl⟩
             rw [← hBB.out])
          | (go_at_call 72
             refine (refOpens_any _ _ b q rfl rfl (by omega) (by omega) _).mono ?_
             rintro e w1 ⟨rfl, rfl⟩
             rw [hO2.out]))
        go_round
        case rel => exact ⟨k + 1, by omega, by go_num⟩
        case measure => simp [intOf]; omega
    · have hyes := hF1.out
      rw [← hp, ← hq, Bool.and_eq_true] at hyes
      have hO1 := Lib.hid hyes.1
      have hO2 := Lib.hid hyes.2
      clear hyes hp hq
      have _t := hn
      have _s := hn
      go_wp2_with (first
        | (go_at_call 51
           clear _t
           refine (refNumber_any A n c xs w0 _ ha0 (by omega) hX.out).mono ?_
           rintro e w1 ⟨rfl, rfl⟩
           rw [← hAA.out])
        | (go_at_call 72
           clear _s
           refine (refOpens_any _ _ a p rfl rfl (by omega) (by omega) _).mono ?_
           rintro e w1 ⟨rfl, rfl⟩
           rw [hO1.out])
        | (go_at_call 51
           refine (refNumber_any B m d ys _ _ hb0 (by omega) hY.out).mono ?_
           rintro e w1 ⟨rfl, rfl⟩
           rw [← hBB.out])
        | (go_at_call 72
           refine (refOpens_any _ _ b q rfl rfl (by omega) (by omega) _).mono ?_
           rintro e w1 ⟨rfl, rfl⟩
           rw [hO2.out]))
      go_ret
      exact ⟨rfl, hBe0⟩
set_option maxHeartbeats 400000 in
theorem refTogetherApi_any (A B : Option Addr) (n m c d : Nat) (xs ys : List Int) (w : World) (ha : RInts w w.heap.size A n xs) (hb : RInts w w.heap.size B m ys) (hn : n ≤ maxLen) (hm : m ≤ maxLen) :
    Calls Tryd.prog 36 #[.agg (pairC A n c B m d)] w (RetI (togN xs ys) (pairE xs ys) w) := by
  by_cases hx : pairE xs ys = 0
  · have hk := pairE_ok hx
    have hX := Lib.hid hx
    have h6 : n ≤ 6 := by rw [← ha.len]; exact hk.2.2.1
    have h6' : m ≤ 6 := by rw [← hb.len]; exact hk.2.2.2
    have hBx := Lib.hid (bin_of_all (chk_zero hk.1).2.2)
    have hBy := Lib.hid (bin_of_all (chk_zero hk.2.1).2.2)
    have hTg : togN xs ys = fewN (numS xs) (numS ys) := by rw [togN, if_pos hx]
    rw [hTg, hx]
    clear hk hx hTg
    go_enter Tryd.func36, Tryd.ntmps36
    go_wp2_with (first
      | (with_reducible show wpList _ _ _ (⟨some 1, .box 41 _, _, _, _, _⟩ :: _) _ _
         refine wpList_box_blk rfl 41 _ rfl (pairC A n c B m d) rfl ?_
         intro w0 g1 hP1 hg0 hs0
         have hBe0 : Below w.heap.size w w0 := below_none (Below.refl _ _) hg0 (Nat.le_refl _)
         clear hg0)
      | (with_reducible show wpList _ _ _ (⟨some 5, .load 41 _, _, _, _, _⟩ :: _) _ _
         refine wpList_load_blk rfl 41 _ rfl g1 rfl 41 _ _ hP1 Tryd.underlying41 rfl (info_pairR _ _ _ _ _ _) ?_)
      | (with_reducible show wpList _ _ _ (⟨some 10, .load 41 _, _, _, _, _⟩ :: _) _ _
         refine wpList_load_blk rfl 41 _ rfl g1 rfl 41 _ _ hP2 Tryd.underlying41 rfl (info_pairR _ _ _ _ _ _) ?_)
      | (go_at_call 66
         refine (refPair_any A B n m c d xs ys w0 ((ha.below hBe0).more hBe0.size) ((hb.below hBe0).more hBe0.size) hn hm).mono ?_
         rintro e w1 ⟨rfl, hb1⟩
         have hBe1 := hBe0.trans (hb1.mono hBe0.size)
         have hP2 := hP1.callee hb1
         rw [hX.out])
      | (go_at_call 67
         refine (refTogether_any A B n m c d xs ys w1 ((ha.below hBe1).more hBe1.size) ((hb.below hBe1).more hBe1.size) h6 h6' hBx.out hBy.out).mono ?_
         rintro e w2 ⟨rfl, hb2⟩))
    go_ret2
    exact ⟨rfl, hBe1.trans (hb2.mono hBe1.size)⟩
  · have hTg : togN xs ys = 0 := by rw [togN, if_neg hx]
    rw [hTg]
    have hb0 : (pairE xs ys != 0) = true := by simpa using hx
    clear hx hTg
    go_enter Tryd.func36, Tryd.ntmps36
    go_wp2_with (first
      | (with_reducible show wpList _ _ _ (⟨some 1, .box 41 _, _, _, _, _⟩ :: _) _ _
         refine wpList_box_blk rfl 41 _ rfl (pairC A n c B m d) rfl ?_
         intro w0 g1 hP1 hg0 hs0
         have hBe0 : Below w.heap.size w w0 := below_none (Below.refl _ _) hg0 (Nat.le_refl _)
         clear hg0)
      | (with_reducible show wpList _ _ _ (⟨some 5, .load 41 _, _, _, _, _⟩ :: _) _ _
         refine wpList_load_blk rfl 41 _ rfl g1 rfl 41 _ _ hP1 Tryd.underlying41 rfl (info_pairR _ _ _ _ _ _) ?_)
      | (go_at_call 66
         refine (refPair_any A B n m c d xs ys w0 ((ha.below hBe0).more hBe0.size) ((hb.below hBe0).more hBe0.size) hn hm).mono ?_
         rintro e w1 ⟨rfl, hb1⟩
         have hBe1 := hBe0.trans (hb1.mono hBe0.size)))
    go_ret2
    exact ⟨rfl, hBe1⟩
end Go.Proofs.YtjhcemhnnkcjaaaDoor
-- the text RefOpening
namespace Go.Proofs.YtjhcemhnnkcjaaaDoor
open Go.RowKit
theorem RetS_own {w w' : World} {base : Nat} {v : Value} {xs : List Int} {T : Nat} (h : OwnI w' base v xs) (hl : xs.length = T) (hb : Below w.heap.size w w') : RetS T xs w (.returned v) w' := by
  subst hl
  obtain ⟨A, c, rfl, hr⟩ := h.reads
  exact ⟨A, c, rfl, hr, hb⟩
set_option maxRecDepth 100000 in
set_option maxHeartbeats 1000000 in
theorem refOpening_any (A : Option Addr) (n c T : Nat) (xs : List Int) (y : Int) (hyT : y = (T : Int)) (w : World) (ha : RInts w w.heap.size A n xs) (hn : n ≤ 16) (hn1 : 1 ≤ n) (hx : bin xs) (hT : T ≤ 200) (ho : opensN (numS xs) T = true) :
    Calls Tryd.prog 69 #[.slice A n c, .int .i64 y] w (RetS T (openGo n T (numS xs)) w) := by
  subst hyT
  have hX := Lib.hid hx
  have hO := Lib.hid ho
  obtain ⟨tot, htot⟩ : ∃ tot, tot = openGo n T (numS xs) := ⟨_, rfl⟩
  have hTL : Hid (tot.length = T) := Lib.hid (by rw [htot, openGo_length])
  have hTOT := Lib.hid htot
  rw [← htot]
  clear hx ho htot
  go_enter Tryd.func69, Tryd.ntmps69
  go_wp2_with (fail)
  go_loopg [0, 1, 5] T (fun q u i v wr => ∃ (l : Nat) (cur zs : List Int) (A1 : Option Addr) (c1 : Nat), Hid (q = l) ∧ u = .slice A1 n c1 ∧ i = .int .i64 l ∧ RInts wr wr.heap.size A1 n cur ∧ Hid (bin cur) ∧ Hid (opensN (numS cur) l = true) ∧
      OwnI wr w.heap.size v zs ∧ Hid (zs ++ openGo n l (numS cur) = tot) ∧ Hid (Apart A1 v) ∧ Below w.heap.size w wr)
  case atStart => exact ⟨T, xs, [], A, c, Lib.hid rfl, rfl, rfl, ha, hX, hO, OwnI.nil _ _, Lib.hid (by rw [hTOT.out]; rfl), Lib.hid (fun _ _ h => by simp [Value.ownBlock] at h), Below.refl _ _⟩
  case round =>
    obtain ⟨l, cur, zs, A1, c1, hq, rfl, rfl, har, hbc, hop, hown, htt, hap, hbe⟩ := hrel
    have hlen : zs.length + l = T := by have := congrArg List.length htt.out; rw [List.length_append, openGo_length, hTL.out] at this; exact this
    rcases Nat.eq_zero_or_pos l with rfl | hpos
    · have hz : Hid (zs = tot) := Lib.hid (by have := htt.out; rwa [openGo, List.append_nil] at this)
      go_wp2_with (fail)
      go_ret
      rw [← hz.out]
      exact RetS_own hown (by omega) hbe
    · obtain ⟨t, ht⟩ : ∃ t, t = l - 1 := ⟨_, rfl⟩
      have hl1 : (l : Int) - 1 = (t : Int) := by omega
      have htl : l = t + 1 := by omega
      rw [htl] at hop htt
      have hlt' := Lib.hid htl
      have ht9 : t < 1000 := by omega
      clear ht htl
      have hst := open_stop (t := t) hbc.out (by rw [har.len]; exact hn1) hop.out
      rw [har.len] at hst
      obtain ⟨K, hK⟩ : ∃ K, K = openD n (numS cur) t := ⟨_, rfl⟩
      rw [← hK] at hst
      obtain ⟨s1, s2, s3, s4, s5⟩ := hst
      have hS2 := Lib.hid s2
      have hS3 := Lib.hid s3
      have hS4 : Hid (opensN (numS (moveS cur K)) t = true) := Lib.hid (by rw [s3]; exact s4)
      have hS5 := Lib.hid s5
      have htn : Hid ((zs ++ [(K : Int)]) ++ openGo n t (numS (moveS cur K)) = tot) := Lib.hid (by
        have := htt.out
        rw [openGo, ← hK, ← s3] at this
        rw [List.append_assoc]; exact this)
      have h16 : Hid (∀ k, numS (moveS cur k) < 65536) := Lib.hid (fun k => numS_bin16 (by rw [moveS_length, har.len]; exact hn))
      have hK16 : K ≤ 16 := by omega
      clear s2 s3 s4 s5 hK
      go_wp2_with (fail)
      go_loopw [6] (fun i w2 => ∃ k : Nat, k ≤ K ∧ i = .int .i64 k ∧ Below wr.heap.size wr w2) (fun i _ => K - (intOf i).toNat)
      case atStart => exact ⟨0, by omega, rfl, Below.refl _ _⟩
      case round =>
        rename_i w2
        obtain ⟨k, hk, rfl, hb2⟩ := hrel
        have har2 := (har.below hb2).more hb2.size
        have hbcm := Lib.hid (moveS_bin hbc.out k)
        rcases Nat.lt_or_eq_of_le hk with hlt | rfl
        · cases hc : canS cur k with
          | false =>
            have hC := Lib.hid hc
            clear hc
            go_wp2_with (first
              | (go_at_call 71
                 refine (refCan_any A1 n c1 k cur _ _ har2 hn (by omega)).mono ?_
                 rintro e w3 ⟨rfl, rfl⟩
                 rw [hC.out]))
            go_roundw
            case rel => exact ⟨k + 1, by omega, by go_num, hb2⟩
            case measure => simp [intOf]; omega
          | true =>
            have hno := Lib.hid (hS5.out k hlt hc)
            have hC := Lib.hid hc
            clear hc
            go_wp2_with (first
              | (go_at_call 71
                 refine (refCan_any A1 n c1 k cur _ _ har2 hn (by omega)).mono ?_
                 rintro e w3 ⟨rfl, rfl⟩
                 rw [hC.out])
              | (go_at_call 61
                 refine (refMoved_any A1 n c1 k cur _ har2 hn (by omega) hbc.out).mono ?_
                 rintro e w4 ⟨A4, c4, rfl, hr4, hb4⟩)
              | (go_at_call 51
                 refine (refNumber_any A4 n c4 (moveS cur k) w4 _ hr4 hn hbcm.out).mono ?_
                 rintro e w5 ⟨rfl, rfl⟩)
              | (go_at_call 72
                 refine (refOpens_any _ _ (numS (moveS cur k)) t rfl (by omega) (h16.out k) (by omega) _).mono ?_
                 rintro e w6 ⟨rfl, rfl⟩
                 rw [hno.out]))
            go_roundw
            case rel => exact ⟨k + 1, by omega, by go_num, hb2.trans (hb4.mono hb2.size)⟩
            case measure => simp [intOf]; omega
        · have hown2 := hown.callee hb2
          have hbe2 := hbe.trans (hb2.mono hbe.size)
          have _t := hn
          go_wp2_with (first
            | (go_at_call 71
               refine (refCan_any A1 n c1 k cur _ _ har2 hn (by omega)).mono ?_
               rintro e w3 ⟨rfl, rfl⟩
               rw [hS2.out])
            | (go_at_call 61
               clear _t
               refine (refMoved_any A1 n c1 k cur _ har2 hn (by omega) hbc.out).mono ?_
               rintro e w4 ⟨A4, c4, rfl, hr4, hb4⟩
               have hown4 := hown2.callee hb4
               have hbe4 := hbe2.trans (hb4.mono hbe2.size)
               have har4 := (har2.below hb4).more hb4.size)
            | (go_at_call 51
               refine (refNumber_any A4 n c4 (moveS cur k) w4 _ hr4 hn hbcm.out).mono ?_
               rintro e w5 ⟨rfl, rfl⟩)
            | (go_at_call 72
               refine (refOpens_any _ _ (numS (moveS cur k)) t rfl (by omega) (h16.out k) (by omega) _).mono ?_
               rintro e w6 ⟨rfl, rfl⟩
               rw [hS4.out])
            | (at_builtin
               refine wpList_push rfl _ _ rfl rfl (hown4.none_ (World.grownBy_alloc _ _ none)) _ 1 k rfl (Blk.new _ _ _) (by omega) (by simp; have := hbe4.size; omega) ?_
               intro g5 cap5 w7 hown5 hg5 hat5 hlt5
               have hbe5 := (hbe4.alloc hbe4.size _).grown hg5 (by simp; have := hbe4.size; omega) (fun i hi => hown4.ge hi)
               have har5 := RInts.grownNe (Reads.alloc har4 (Nat.le_refl _) _) hg5 (by simp) hap.out
               have hsz5 := hg5.size
               rw [World.size_alloc] at hsz5)
            | (go_at_call 61
               refine (refMoved_new A1 n c1 k cur w7 (har5.more (by omega)) hn s1 hbc.out).mono ?_
               rintro e w8 ⟨A8, c8, rfl, hr8, hb8, hfr8⟩))
          go_roundg t
          case rel => exact ⟨t, moveS cur k, zs ++ [(k : Int)], A8, c8, Lib.hid rfl, rfl, by go_num, hr8, Lib.hid (moveS_bin hbc.out k), hS4, by have h7 := hown5.callee hb8; exact h7, htn, Lib.hid (fun ad e h' => by have := hfr8.out ad e; simp only [Value.ownBlock, Option.some.injEq] at h'; omega), hbe5.trans (hb8.mono hbe5.size)⟩
          case measure => rw [hq.out, hlt'.out]; omega
end Go.Proofs.YtjhcemhnnkcjaaaDoor
-- the text RefTurns
namespace Go.Proofs.YtjhcemhnnkcjaaaDoor
open Go.RowKit
theorem take_next {L : List Int} {i : Nat} {x : Int} (h : L[i]? = some x) : L.take (i + 1) = L.take i ++ [x] := by rw [List.take_add_one, h]; rfl
set_option maxRecDepth 100000 in
set_option maxHeartbeats 1000000 in
theorem refTurns_ok (A B : Option Addr) (n m c d : Nat) (xs ys : List Int) (w : World) (ha : RInts w w.heap.size A n xs) (hb : RInts w w.heap.size B m ys) (hn : n ≤ maxLen) (hm : m ≤ maxLen) (hx : pairE xs ys = 0) :
    Calls Tryd.prog 38 #[.agg (pairC A n c B m d)] w (RetL (turnsGo (pairR xs.length ys.length) (fewN (numS xs) (numS ys)) 0 (pairR (numS xs) (numS ys))) 0 w) := by
  have hk := pairE_ok hx
  have hX := Lib.hid hx
  have h6 : n ≤ 6 := by rw [← ha.len]; exact hk.2.2.1
  have h6' : m ≤ 6 := by rw [← hb.len]; exact hk.2.2.2
  have hn1 : 1 ≤ n := by have := (chk_zero hk.1).1; rw [ha.len] at this; omega
  have hm1 : 1 ≤ m := by have := (chk_zero hk.2.1).1; rw [hb.len] at this; omega
  have hBx := Lib.hid (bin_of_all (chk_zero hk.1).2.2)
  have hBy := Lib.hid (bin_of_all (chk_zero hk.2.1).2.2)
  have hF1 := (few_first (numS xs) (numS ys)).1
  have hFs := few_small (numS_6 ha.len h6) (numS_6 hb.len h6')
  have hat := turnsGo_at (pairR xs.length ys.length) (fewN (numS xs) (numS ys)) 0 (by omega) (pairR (numS xs) (numS ys))
  obtain ⟨F, hF⟩ : ∃ F, F = fewN (numS xs) (numS ys) := ⟨_, rfl⟩
  rw [← hF] at hF1 hFs hat ⊢
  have hFF := Lib.hid hF
  obtain ⟨L, hLe⟩ : ∃ L, L = turnsGo (pairR xs.length ys.length) F 0 (pairR (numS xs) (numS ys)) := ⟨_, rfl⟩
  have hLL : Hid (L.length = F) := Lib.hid (by rw [hLe, turnsGo_length])
  rw [← hLe] at hat ⊢
  have hd1 : ((F : Int) + 1).tdiv 2 = (((F + 1) / 2 : Nat) : Int) := by rw [Int.tdiv_eq_ediv_of_nonneg (by omega)]; omega
  have hd2 : (F : Int).tdiv 2 = ((F / 2 : Nat) : Int) := by rw [Int.tdiv_eq_ediv_of_nonneg (by omega)]; omega
  obtain ⟨p, hp⟩ : ∃ p, p = (F + 1) / 2 := ⟨_, rfl⟩
  obtain ⟨q, hq⟩ : ∃ q, q = F / 2 := ⟨_, rfl⟩
  rw [← hp] at hd1 hF1 hat
  rw [← hq] at hd2 hF1 hat
  rw [Bool.and_eq_true] at hF1
  have hO1 := Lib.hid hF1.1
  have hO2 := Lib.hid hF1.2
  have hAT : Hid (∀ i, L[i]? = if i % 2 = 0 then (openGo n p (numS xs))[i / 2]? else (openGo m q (numS ys))[i / 2]?) := Lib.hid (fun i => by
    rw [hat i]
    simp only [pairR, if_true, Nat.sub_zero, if_neg (show ¬ (1 : Nat) = 0 by omega), ha.len, hb.len])
  have hp9 : p ≤ 200 := by omega
  have hq9 : q ≤ 200 := by omega
  have hw1 : IntKind.i64.wrap ((F : Int) + 1) = (F : Int) + 1 := by rw [IntWalk.i64_in _ (by omega)]
  have hw2 : IntKind.i64.wrap (p : Int) = p := by rw [IntWalk.i64_in _ (by omega)]
  have hw3 : IntKind.i64.wrap (q : Int) = q := by rw [IntWalk.i64_in _ (by omega)]
  have hPQ := Lib.hid (show p = (F + 1) / 2 ∧ q = F / 2 from ⟨hp, hq⟩)
  have HW := Lib.hid (show _ ∧ _ ∧ _ from ⟨hw1, hw2, hw3⟩)
  clear hk hx hF1 hF hat hLe hp hq hw1 hw2 hw3
  go_enter Tryd.func38, Tryd.ntmps38
  go_upto_region 5 with (first
    | (with_reducible show wpList _ _ _ (⟨some 1, .box 41 _, _, _, _, _⟩ :: _) _ _
       refine wpList_box_blk rfl 41 _ rfl (pairC A n c B m d) rfl ?_
       intro w0 g1 hP1 hg0 hs0
       have hBe0 : Below w.heap.size w w0 := below_none (Below.refl _ _) hg0 (Nat.le_refl _)
       clear hg0 hs0)
    | (with_reducible show wpList _ _ _ (⟨some 10, .load 41 _, _, _, _, _⟩ :: _) _ _
       refine wpList_load_blk rfl 41 _ rfl g1 rfl 41 _ _ hP1 Tryd.underlying41 rfl (info_pairR _ _ _ _ _ _) ?_)
    | (with_reducible show wpList _ _ _ (⟨some 15, .load 41 _, _, _, _, _⟩ :: _) _ _
       refine wpList_load_blk rfl 41 _ rfl g1 rfl 41 _ _ hP2 Tryd.underlying41 rfl (info_pairR _ _ _ _ _ _) ?_)
    | (go_at_call 66
       refine (refPair_any A B n m c d xs ys w0 ((ha.below hBe0).more hBe0.size) ((hb.below hBe0).more hBe0.size) hn hm).mono ?_
       rintro e w1 ⟨rfl, hb1⟩
       have hBe1 := hBe0.trans (hb1.mono hBe0.size)
       have hP2 := hP1.callee hb1
       rw [hX.out]
       clear hb1 hP1)
    | (go_at_call 67
       refine (refTogether_any A B n m c d xs ys w1 ((ha.below hBe1).more hBe1.size) ((hb.below hBe1).more hBe1.size) h6 h6' hBx.out hBy.out).mono ?_
       rintro e w2 ⟨rfl, hb2⟩
       rw [← hFF.out]
       have hBe2 := hBe1.trans (hb2.mono hBe1.size)
       have hP3 := hP2.callee hb2
       obtain ⟨c0, c1⟩ := pairC_0 hP3
       have ha2 := (ha.below hBe2).more hBe2.size
       have hb2' := (hb.below hBe2).more hBe2.size
       clear hb2 hP2 hBe1 hBe0))
  go_cut [6, 7] from 8 (fun u v wx => ∃ (A1 A2 : Option Addr) (c1 c2 : Nat), u = .slice A1 p c1 ∧ v = .slice A2 q c2 ∧ RInts wx wx.heap.size A1 p (openGo n p (numS xs)) ∧ RInts wx wx.heap.size A2 q (openGo m q (numS ys)) ∧ Below w.heap.size w wx)
  case first =>
    obtain ⟨hw1, hw2, hw3⟩ := HW.out
    have _t := hn
    go_region_with (first
      | (go_at_call 69
         clear _t
         refine (refOpening_any A n c p xs _ rfl w2.drew ha2.drew (by omega) hn1 hBx.out hp9 hO1.out).mono ?_
         rintro e w3 ⟨A3, c3, rfl, hr3, hb3⟩
         have hP4 := hP3.drew.callee hb3
         obtain ⟨c4, c5⟩ := pairC_0 hP4
         have hBe3 := hBe2.drew.trans (hb3.mono hBe2.drew.size)
         have hb3' := (hb2'.drew.below hb3).more hb3.size
         clear hb3)
      | (go_at_call 69
         refine (refOpening_any B m d q ys _ rfl _ hb3' (by omega) hm1 hBy.out hq9 hO2.out).mono ?_
         rintro e w4 ⟨A4, c4, rfl, hr4, hb4⟩
         have hr34 := (hr3.below hb4).more hb4.size
         have hBe4 := hBe3.trans (hb4.mono hBe3.size)))
    all_goals
      go_wp2_with (fail)
      go_meet
      exact ⟨_, _, _, _, rfl, rfl, hr34, hr4, hBe4⟩
  case rest =>
    obtain ⟨A1, A2, e1, e2, rfl, rfl, hr1, hr2, hBw⟩ := hcut
    clear hP3 c0 c1 ha2 hb2' hBe2 hd1 hd2 HW hO1 hO2
    go_wp2_with (fail)
    go_loopw [8, 9] (fun v i wr => ∃ k : Nat, k ≤ F ∧ i = .int .i64 k ∧ OwnI wr wc.heap.size v (L.take k) ∧ Below wc.heap.size wc wr) (fun _ i _ => F - (intOf i).toNat)
    case atStart => exact ⟨0, by omega, rfl, OwnI.nil _ _, Below.refl _ _⟩
    case round =>
      obtain ⟨k, hk, rfl, hown, hbe⟩ := hrel
      have hl : (L.take k).length = k := by rw [List.length_take, hLL.out]; omega
      by_cases hlt : k < F
      · have hdv : (k : Int).tdiv 2 = ((k / 2 : Nat) : Int) := by rw [Int.tdiv_eq_ediv_of_nonneg (by omega)]; omega
        have hLk := hAT.out k
        rcases Nat.mod_two_eq_zero_or_one k with e | e
        · have hmd : (k : Int).tmod 2 = 0 := by rw [Int.tmod_eq_emod_of_nonneg (by omega)]; omega
          rw [if_pos e] at hLk
          have hh : k / 2 < p := by have := hPQ.out.1; omega
          obtain ⟨h, hhe⟩ : ∃ h, h = k / 2 := ⟨_, rfl⟩
          rw [← hhe] at hh hdv hLk
          obtain ⟨ad, x, hA1, hab, hcell, hx⟩ := (hr1.below hbe).at_ hh
          have hT : Hid (L.take (k + 1) = L.take k ++ [x]) := Lib.hid (take_next (hLk.trans hx.out))
          subst hA1
          clear hLk e hhe
          go_wp2_with (first
            | (at_builtin
               refine wpList_push rfl _ _ rfl rfl (hown.none_ (World.grownBy_alloc _ _ none)) _ 1 x rfl (Blk.new _ _ _) (by omega) (by simp; have := hbe.size; omega) ?_
               intro g5 cap5 w5 hown5 hg5 hat5 hlt5))
          go_roundw
          case rel => exact ⟨k + 1, by omega, by go_num, by rw [hl] at hown5; rw [hT.out]; exact hown5, (hbe.alloc hbe.size _).grown hg5 (by simp; have := hbe.size; omega) (fun j hj => hown.ge hj)⟩
          case measure => simp [intOf]; omega
        · have hmd : (k : Int).tmod 2 = 1 := by rw [Int.tmod_eq_emod_of_nonneg (by omega)]; omega
          rw [if_neg (by omega)] at hLk
          have hh : k / 2 < q := by have := hPQ.out.2; omega
          obtain ⟨h, hhe⟩ : ∃ h, h = k / 2 := ⟨_, rfl⟩
          rw [← hhe] at hh hdv hLk
          obtain ⟨ad, x, hA2, hab, hcell, hx⟩ := (hr2.below hbe).at_ hh
          have hT : Hid (L.take (k + 1) = L.take k ++ [x]) := Lib.hid (take_next (hLk.trans hx.out))
          subst hA2
          clear hLk e hhe
          go_wp2_with (first
            | (at_builtin
               refine wpList_push rfl _ _ rfl rfl (hown.none_ (World.grownBy_alloc _ _ none)) _ 1 x rfl (Blk.new _ _ _) (by omega) (by simp; have := hbe.size; omega) ?_
               intro g5 cap5 w5 hown5 hg5 hat5 hlt5))
          go_roundw
          case rel => exact ⟨k + 1, by omega, by go_num, by rw [hl] at hown5; rw [hT.out]; exact hown5, (hbe.alloc hbe.size _).grown hg5 (by simp; have := hbe.size; omega) (fun j hj => hown.ge hj)⟩
          case measure => simp [intOf]; omega
      · obtain rfl : k = F := by omega
        have hT : L.take k = L := List.take_of_length_le (by rw [hLL.out]; exact Nat.le_refl _)
        rw [hT] at hown
        go_wp2_with (fail)
        go_ret2
        exact RetL_own hown (by rw [hLL.out]; omega) (hBw.trans (hbe.mono hBw.size))
set_option maxHeartbeats 400000 in
theorem refTurns_any (A B : Option Addr) (n m c d : Nat) (xs ys : List Int) (w : World) (ha : RInts w w.heap.size A n xs) (hb : RInts w w.heap.size B m ys) (hn : n ≤ maxLen) (hm : m ≤ maxLen) :
    Calls Tryd.prog 38 #[.agg (pairC A n c B m d)] w (RetL (turnsL xs ys) (pairE xs ys) w) := by
  by_cases hx : pairE xs ys = 0
  · rw [turnsL, if_pos hx, hx]
    exact refTurns_ok A B n m c d xs ys w ha hb hn hm hx
  · rw [turnsL, if_neg hx]
    have hb0 : (pairE xs ys != 0) = true := by simpa using hx
    clear hx
    go_enter Tryd.func38, Tryd.ntmps38
    go_wp2_with (first
      | (with_reducible show wpList _ _ _ (⟨some 1, .box 41 _, _, _, _, _⟩ :: _) _ _
         refine wpList_box_blk rfl 41 _ rfl (pairC A n c B m d) rfl ?_
         intro w0 g1 hP1 hg0 hs0
         have hBe0 : Below w.heap.size w w0 := below_none (Below.refl _ _) hg0 (Nat.le_refl _)
         clear hg0)
      | (with_reducible show wpList _ _ _ (⟨some 10, .load 41 _, _, _, _, _⟩ :: _) _ _
         refine wpList_load_blk rfl 41 _ rfl g1 rfl 41 _ _ hP1 Tryd.underlying41 rfl (info_pairR _ _ _ _ _ _) ?_)
      | (go_at_call 66
         refine (refPair_any A B n m c d xs ys w0 ((ha.below hBe0).more hBe0.size) ((hb.below hBe0).more hBe0.size) hn hm).mono ?_
         rintro e w1 ⟨rfl, hb1⟩
         have hBe1 := hBe0.trans (hb1.mono hBe0.size)))
    go_ret2
    exact RetL_nil hBe1
end Go.Proofs.YtjhcemhnnkcjaaaDoor
