/- The reference's Turns and Exchange. -/
import Derived.Test.YtfcfhiekkpflcaaDoorRefA
namespace Go.Proofs.YtfcfhiekkpflcaaDoor
open Go.RowKit
theorem keepsT_go (l : Word) (keep : Int) (k : Nat) (hk : 0 ≤ keep) : (decide (lacksT (l.drop k ++ l.take k) 0 < 0) && (stepsT 0 (l.drop k ++ l.take k)).all fun x => decide (keep ≤ x)) = keepsT l keep k := by
  unfold keepsT
  cases h : (stepsT 0 (l.drop k ++ l.take k)).all fun x => decide (keep ≤ x) with
  | false => rw [Bool.and_false]
  | true =>
    rw [Bool.and_true, decide_eq_true_iff, lacks_iff]
    intro x hx
    have := of_decide_eq_true (List.all_eq_true.1 h x hx)
    omega
theorem all_snoc {l : List Int} {p : Int → Bool} {i : Nat} {x : Int} (h : l[i]? = some x) : (l.take (i + 1)).all p = ((l.take i).all p && p x) := by
  rw [List.take_add_one, h, Option.toList_some, List.all_append]
  simp
set_option maxRecDepth 100000 in
set_option maxHeartbeats 4000000 in
theorem rTurns_any (s : ByteArray) (b : Int) (w : World) : Calls Tryd.prog 32 #[.string s, .int .i64 b] w (RetIE (turnL (bts s) b) (opT (bts s) b) w) := by
  obtain ⟨k, hk⟩ : ∃ k, opT (bts s) b = k := ⟨_, rfl⟩
  have hkH := Lib.hid hk
  by_cases h0 : k = 0
  · subst h0
    obtain ⟨h1, h2, h3⟩ := opT_zero hk
    obtain ⟨h4, h5⟩ := chkT_zero h1
    rw [bts_len] at h4
    have hR := Lib.hid (show turnL (bts s) b = keepN (bts s) b s.size by unfold turnL; rw [if_pos hk, turnN_keepN _ _ _ (Nat.le_refl _), bts_len])
    rw [hR.out, hk]
    clear hk h1 h5
    go_enter Tryd.func32, Tryd.ntmps32
    go_wp2_with (first
      | (go_at_call 52; (with_reducible refine (begun_any _ _ _).mono ?_); rintro e wz ⟨rfl, hwz⟩; replace hwz := hwz.symm; subst hwz; rw [hkH.out]))
    go_loopw [7, 8] (fun o v wr => ∃ k : Nat, k ≤ s.size ∧ v = .int .i64 k ∧ OwnI wr w.heap.size o (keepN (bts s) b k) ∧ Below w.heap.size w wr) (fun _ v _ => s.size - (intOf v).toNat)
    case atStart => exact ⟨0, by omega, rfl, OwnI.nil _ _, Below.refl _ _⟩
    case round =>
      obtain ⟨k, hk, rfl, ho, hbe⟩ := hrel
      by_cases hlt : k < s.size
      · have hlti : (k : Int) < s.size := by omega
        obtain ⟨t, ht⟩ : ∃ t : ByteArray, s.extract k s.size ++ s.extract 0 k = t := ⟨_, rfl⟩
        have hbt : bts t = (bts s).drop k ++ (bts s).take k := by
          rw [← ht, bts_append, bts_extract, bts_extract, List.drop_zero, ← bts_len, List.take_length]
        have hts : t.size = s.size := by rw [← bts_len, hbt, List.length_append, List.length_drop, List.length_take, bts_len]; omega
        have htsi : (t.size : Int) = s.size := by omega
        have hadd : ∀ w', (Op.stringOp .add (s.extract k s.size) (s.extract 0 k)).run Tryd.prog w' = .ok (.string t) w' := fun w' => by
          have hs1 : (s.extract k s.size).size ≤ 16 := by rw [← bts_len, bts_extract, List.length_drop, List.length_take, bts_len]; omega
          have hs2 : (s.extract 0 k).size ≤ 16 := by rw [← bts_len, bts_extract, List.length_drop, List.length_take, bts_len]; omega
          rw [run_string_add w' _ _ (by omega) (by omega), ht]
        have hlk := Lib.hid (fun w' => rlacks_any t 0 (by omega) (by omega) w')
        have haf := Lib.hid (fun (i : Nat) (hi : i ≤ t.size) w' => after_any t 0 i (by omega) hi (by omega) w')
        obtain ⟨q, hq⟩ : ∃ q, lacksT (bts t) 0 = q := ⟨_, rfl⟩
        rw [hq] at hlk
        have hgo := keepsT_go (bts s) b k h2
        rw [← hbt, hq] at hgo
        have hgoH := Lib.hid hgo
        obtain ⟨d, hd⟩ : ∃ d, decide (q < 0) = d := ⟨_, rfl⟩
        rw [hd] at hgoH
        clear hbt ht hq hgo
        go_wp2_with (fail)
        go_quiet (fail)
        go_wp2_with (first
          | (go_at_call 53; (with_reducible refine (hlk.out _).mono ?_); rintro e w2 ⟨rfl, hw2⟩
             have hb2 : Below w.heap.size w w2 := (by rw [hw2]; exact below_drewN hbe nq)
             have ho2 := ho.drewN nq
             rw [← hw2] at ho2
             clear hw2))
        go_loopw [10, 11] (fun c v wr2 => ∃ (i : Nat) (p : Bool), i ≤ s.size ∧ v = .int .i64 i ∧ c = .bool p ∧ Hid ((d && ((stepsT 0 (bts t)).take i).all fun x => decide (b ≤ x)) = p) ∧ w2 = wr2) (fun _ v _ => s.size - (intOf v).toNat)
        case atStart => exact ⟨0, d, by omega, rfl, rfl, Lib.hid (by simp), rfl⟩
        case round =>
          obtain ⟨i, p, hi, rfl, rfl, hp, hw3⟩ := hrel
          subst hw3
          by_cases hlt2 : i < s.size
          · have hlti2 : (i : Int) < s.size := by omega
            obtain ⟨x, hx⟩ : ∃ x, endT 0 ((bts t).take (i + 1)) = x := ⟨_, rfl⟩
            have hxg := steps_get (bts t) 0 i (by rw [bts_len]; omega)
            rw [hx] at hxg
            have hal := Lib.hid (all_snoc (p := fun x => decide (b ≤ x)) hxg)
            cases p with
            | false =>
              have hN := Lib.hid (show (d && ((stepsT 0 (bts t)).take (i + 1)).all fun x => decide (b ≤ x)) = false by rw [hal.out, ← Bool.and_assoc, hp.out]; rfl)
              clear hx hxg
              go_wp2_with (fail)
              go_roundw
              case rel => exact ⟨i + 1, false, by omega, by go_num, rfl, hN, by first | rfl | trivial⟩
              case measure => simp only [intOf]; omega
            | true =>
              obtain ⟨j, hj⟩ : ∃ j : Nat, (i : Int) + 1 = j := ⟨i + 1, by omega⟩
              have hjw : IntKind.i64.wrap (j : Int) = j := by rw [IntKind.wrap_i64]; omega
              have haf2 := Lib.hid (show ∀ w', Calls Tryd.prog 51 #[.string t, .int .i64 0, .int .i64 j] w' fun e w'' => e = .returned (.int .i64 x) ∧ w'' = w' from fun w' => (haf.out j (by omega) w').mono (by
                rintro e w'' ⟨rfl, h⟩
                exact ⟨by rw [← hx, show i + 1 = j by omega], h⟩))
              obtain ⟨g, hg⟩ : ∃ g, decide (b ≤ x) = g := ⟨_, rfl⟩
              have hN := Lib.hid (show (d && ((stepsT 0 (bts t)).take (i + 1)).all fun x => decide (b ≤ x)) = g by rw [hal.out, ← Bool.and_assoc, hp.out, ← hg]; rfl)
              clear hx hxg
              go_wp2_with (first
                | (go_at_call 51; (with_reducible refine (haf2.out _).mono ?_); rintro e wz ⟨rfl, hwz⟩; replace hwz := hwz.symm; subst hwz))
              go_roundw
              case rel => exact ⟨i + 1, g, by omega, by go_num, by first | rfl | (rw [hg]), hN, by first | rfl | trivial⟩
              case measure => simp only [intOf]; omega
          · have hlti2 : ¬ (i : Int) < s.size := by omega
            have hpe := hp.out
            rw [List.take_of_length_le (by rw [steps_len, bts_len]; omega), hgoH.out] at hpe
            have hN := Lib.hid (keepN_succ (bts s) b k)
            rw [hpe] at hN
            have hpl : (keepN (bts s) b k).length ≤ 1000000000 := by have := keepN_len (bts s) b k; omega
            clear hpe
            cases p with
            | true =>
              rw [if_pos rfl] at hN
              go_wp2_with (first
                | (at_builtin
                   refine wpList_push rfl _ _ rfl rfl (ho2.none_ (World.grownBy_alloc w2 _ none)) w2.heap.size 1 (k : Int) rfl (Blk.new w2 _ _) hpl (by have := hb2.size; show _ ≤ (w2.heap.push _).size; simp; omega) ?_
                   intro g6 cap6 w6 ho6 hgr6 _ _
                   have hb6 := (hb2.alloc hb2.size (.cells #[.int .i64 (k : Int)] 3)).grown hgr6 (by have := hb2.size; show _ ≤ (w2.heap.push _).size; simp; omega) (fun g hg => ho2.ge hg)))
              go_roundw
              case rel => exact ⟨k + 1, by omega, by go_num, by rw [hN.out]; simpa [OwnI] using ho6, hb6⟩
              case measure => simp only [intOf]; omega
            | false =>
              rw [if_neg (by decide), List.append_nil] at hN
              go_wp2_with (fail)
              go_roundw
              case rel => exact ⟨k + 1, by omega, by go_num, by rw [hN.out]; exact ho2, hb2⟩
              case measure => simp only [intOf]; omega
      · have hlti : ¬ (k : Int) < s.size := by omega
        obtain rfl : k = s.size := by omega
        go_wp2_with (fail)
        go_ret2
        exact ⟨_, rfl, ho, hbe⟩
  · have hE := Lib.hid (show turnL (bts s) b = [] by unfold turnL; rw [hk, if_neg h0])
    have hk0 : (k != 0) = true := by simp [h0]
    rw [hE.out, hk]
    clear hk
    go_enter Tryd.func32, Tryd.ntmps32
    go_wp2_with (first
      | (go_at_call 52; (with_reducible refine (begun_any _ _ _).mono ?_); rintro e wz ⟨rfl, hwz⟩; replace hwz := hwz.symm; subst hwz; rw [hkH.out]))
    go_ret2
    exact ⟨_, rfl, OwnI.nil _ _, Below.refl _ _⟩
theorem exT_get {l : Word} {n i : Nat} {y : UInt8} (h : l[i]? = some y) : (exT l n)[i]? = some (if i < n then flipC y else y) := by
  obtain ⟨hi, _⟩ := List.getElem?_eq_some_iff.1 h
  unfold exT
  by_cases hin : i < n
  · rw [if_pos hin, List.getElem?_append_left (by simp; omega), List.getElem?_map, List.getElem?_take, if_pos hin, h]; rfl
  · rw [if_neg hin, List.getElem?_append_right (by simp; omega), List.length_map, List.length_take, List.getElem?_drop, show n + (i - min n l.length) = i by omega, h]
set_option maxRecDepth 100000 in
set_option maxHeartbeats 4000000 in
theorem rExchange_any (s : ByteArray) (b : Int) (w : World) : Calls Tryd.prog 36 #[.string s, .int .i64 b] w fun e w' => e = .returned (.tuple #[.string ⟨(exV (bts s) b).toArray⟩, .int .i64 (lackE (bts s) b)]) ∧ w' = w := by
  obtain ⟨k, hk⟩ : ∃ k, opT (bts s) b = k := ⟨_, rfl⟩
  have hkH := Lib.hid hk
  by_cases h0 : k = 0
  · subst h0
    obtain ⟨h1, h2, h3⟩ := opT_zero hk
    obtain ⟨h4, h5⟩ := chkT_zero h1
    rw [bts_len] at h4
    obtain ⟨n, hn⟩ : ∃ n, lacksT (bts s) b = n := ⟨_, rfl⟩
    have hlk := Lib.hid (fun w' => rlacks_any s b (by omega) (by omega) w')
    have hnb := negI_bound (stepsT b (bts s)) 0
    rw [show negI (stepsT b (bts s)) 0 = n from hn, steps_len, bts_len] at hnb
    rw [hn] at hlk
    by_cases hq : n < 0
    · have hR := Lib.hid (show exV (bts s) b = [] ∧ lackE (bts s) b = 12 by unfold exV lackE; rw [hk, hn]; exact ⟨if_neg (by omega), by simp [hq]⟩)
      clear hk hn h1 h5
      rw [hR.out.1, hR.out.2]
      go_enter Tryd.func36, Tryd.ntmps36
      go_wp2_with (first
        | (go_at_call 52; (with_reducible refine (begun_any _ _ _).mono ?_); rintro e wz ⟨rfl, hwz⟩; replace hwz := hwz.symm; subst hwz; rw [hkH.out])
        | (go_at_call 53; (with_reducible refine (hlk.out _).mono ?_); rintro e wz ⟨rfl, hwz⟩; replace hwz := hwz.symm; subst hwz))
      go_ret2
      exact ⟨rfl, rfl⟩
    · obtain ⟨m, rfl⟩ : ∃ m : Nat, n = m := ⟨n.toNat, by omega⟩
      obtain ⟨X, hX⟩ : ∃ X, exT (bts s) (m + 1) = X := ⟨_, rfl⟩
      have hR := Lib.hid (show exV (bts s) b = X ∧ lackE (bts s) b = 0 by unfold exV lackE; rw [hk, hn]; exact ⟨by rw [if_pos ⟨rfl, by omega⟩, ← hX]; rfl, by simp [hq]⟩)
      have hXl : X.length = s.size := by rw [← hX, exT_len, bts_len]
      have hget := Lib.hid (fun (i : Nat) (hi : i < s.size) => exT_get (n := m + 1) (bts_at s i hi))
      rw [hX] at hget
      have hokH := Lib.hid h5
      have hms : m < s.size := by omega
      clear hk hn h1 h5 hX
      rw [hR.out.1, hR.out.2]
      go_enter Tryd.func36, Tryd.ntmps36
      go_wp2_with (first
        | (go_at_call 52; (with_reducible refine (begun_any _ _ _).mono ?_); rintro e wz ⟨rfl, hwz⟩; replace hwz := hwz.symm; subst hwz; rw [hkH.out])
        | (go_at_call 53; (with_reducible refine (hlk.out _).mono ?_); rintro e wz ⟨rfl, hwz⟩; replace hwz := hwz.symm; subst hwz))
      go_loopw [8, 9] (fun o v wr => ∃ (i : Nat) (t : ByteArray), i ≤ s.size ∧ v = .int .i64 i ∧ o = .string t ∧ t.size = i ∧ Hid (bts t = X.take i) ∧ w = wr) (fun _ v _ => s.size - (intOf v).toNat)
      case atStart => exact ⟨0, ⟨#[]⟩, by omega, rfl, rfl, rfl, Lib.hid (by simp [bts]), rfl⟩
      case round =>
        obtain ⟨i, t, hi, rfl, rfl, hts, ht, hwr⟩ := hrel
        subst hwr
        by_cases hlt : i < s.size
        · have hlti : (i : Int) < s.size := by omega
          have hyy := okT_at hokH.out (List.mem_of_getElem? (bts_at s i hlt))
          have hgt := hget.out i hlt
          have hX1 : X.take (i + 1) = X.take i ++ [if i < m + 1 then flipC s[i] else s[i]] := by rw [List.take_add_one, hgt]; rfl
          have hti : (t.size : Int) ≤ 16 := by omega
          have ha1 : ∀ w', (Op.stringOp .add t ⟨#[110]⟩).run Tryd.prog w' = .ok (.string (t ++ ⟨#[110]⟩)) w' := fun w' => run_string_add w' _ _ (by omega) (by decide)
          have ha2 : ∀ w', (Op.stringOp .add t ⟨#[99]⟩).run Tryd.prog w' = .ok (.string (t ++ ⟨#[99]⟩)) w' := fun w' => run_string_add w' _ _ (by omega) (by decide)
          have hs1 : (t ++ ⟨#[110]⟩ : ByteArray).size = i + 1 := by rw [← bts_len, bts_append, List.length_append, bts_len, hts]; rfl
          have hs2 : (t ++ ⟨#[99]⟩ : ByteArray).size = i + 1 := by rw [← bts_len, bts_append, List.length_append, bts_len, hts]; rfl
          by_cases him : i ≤ m
          · have himi : (i : Int) ≤ m := by omega
            have himn : ¬ (m : Int) < i := by omega
            rw [if_pos (by omega)] at hX1
            rcases hyy with hy | hy
            · have hg1 : ((s[i].toNat : Int) == 99) = true := by rw [hy]; rfl
              have hg2 : ((s[i].toNat : Int) == 110) = false := by rw [hy]; rfl
              have hN := Lib.hid (show bts (t ++ ⟨#[110]⟩) = X.take (i + 1) by rw [hX1, bts_append, ht.out, hy]; rfl)
              clear hgt hX1 hy
              go_wp2_with (fail)
              go_roundw
              case rel => exact ⟨i + 1, _, by omega, by go_num, rfl, hs1, hN, by first | rfl | trivial⟩
              case measure => simp only [intOf]; omega
            · have hg1 : ((s[i].toNat : Int) == 99) = false := by rw [hy]; rfl
              have hg2 : ((s[i].toNat : Int) == 110) = true := by rw [hy]; rfl
              have hN := Lib.hid (show bts (t ++ ⟨#[99]⟩) = X.take (i + 1) by rw [hX1, bts_append, ht.out, hy]; rfl)
              clear hgt hX1 hy
              go_wp2_with (fail)
              go_roundw
              case rel => exact ⟨i + 1, _, by omega, by go_num, rfl, hs2, hN, by first | rfl | trivial⟩
              case measure => simp only [intOf]; omega
          · have himi : ¬ (i : Int) ≤ m := by omega
            have himd : decide ((i : Int) ≤ m) = false := decide_eq_false himi
            have himn : (m : Int) < i := by omega
            rw [if_neg (by omega)] at hX1
            rcases hyy with hy | hy
            · have hg1 : ((s[i].toNat : Int) == 99) = true := by rw [hy]; rfl
              have hg2 : ((s[i].toNat : Int) == 110) = false := by rw [hy]; rfl
              have hN := Lib.hid (show bts (t ++ ⟨#[99]⟩) = X.take (i + 1) by rw [hX1, bts_append, ht.out, hy]; rfl)
              clear hgt hX1 hy
              go_wp2_with (fail)
              go_roundw
              case rel => exact ⟨i + 1, _, by omega, by go_num, rfl, hs2, hN, by first | rfl | trivial⟩
              case measure => simp only [intOf]; omega
            · have hg1 : ((s[i].toNat : Int) == 99) = false := by rw [hy]; rfl
              have hg2 : ((s[i].toNat : Int) == 110) = true := by rw [hy]; rfl
              have hN := Lib.hid (show bts (t ++ ⟨#[110]⟩) = X.take (i + 1) by rw [hX1, bts_append, ht.out, hy]; rfl)
              clear hgt hX1 hy
              go_wp2_with (fail)
              go_roundw
              case rel => exact ⟨i + 1, _, by omega, by go_num, rfl, hs1, hN, by first | rfl | trivial⟩
              case measure => simp only [intOf]; omega
        · have hlti : ¬ (i : Int) < s.size := by omega
          have hte := Lib.hid (show t = ⟨X.toArray⟩ by
            have := ht.out
            rw [List.take_of_length_le (by omega)] at this
            rw [← this, mk_bts])
          go_wp2_with (fail)
          go_ret2
          exact ⟨by rw [← hte.out]; rfl, rfl⟩
  · have hR := Lib.hid (show exV (bts s) b = [] ∧ lackE (bts s) b = k by unfold exV lackE; rw [hk]; simp [h0])
    have hk0 : (k != 0) = true := by simp [h0]
    have hk1 : (k == 0) = false := by simp [h0]
    clear hk
    rw [hR.out.1, hR.out.2]
    go_enter Tryd.func36, Tryd.ntmps36
    go_wp2_with (first
      | (go_at_call 52; (with_reducible refine (begun_any _ _ _).mono ?_); rintro e wz ⟨rfl, hwz⟩; replace hwz := hwz.symm; subst hwz; rw [hkH.out]))
    go_ret2
    exact ⟨rfl, rfl⟩
end Go.Proofs.YtfcfhiekkpflcaaDoor
