/- The law's CurlFound: the first repeat is the best of all; turned around a word has as many. -/
import Derived.Test.YtdaaiockkbolbaaSpell
import Derived.Test.YtdaaiockkbolbaaWorks
import Derived.Deep.MidRow
import Derived.Laws.StructEq
namespace Go.Proofs.Ytdaaiockkbolbaa
open Go.RowKit
/-- the pairs lie in block g -/
def RPairs (w : World) (B g : Nat) (ps : List (Nat × Nat)) : Prop := g < B ∧ ∀ i x y, ps[i]? = some (x, y) → w.rangeAt g (i * 2) [.int .i64 (x : Nat), .int .i64 (y : Nat)]
theorem RPairs.below {w w' : World} {B g : Nat} {ps : List (Nat × Nat)} (h : RPairs w B g ps) (hb : Below B w w') : RPairs w' B g ps :=
  ⟨h.1, fun i x y e j v hj => (hb.cell (p := ⟨g, i * 2 + j, none⟩) h.1).trans (h.2 i x y e j v hj)⟩
theorem pairsV_at : ∀ (ps : List (Nat × Nat)) (i x y : Nat), ps[i]? = some (x, y) → (pairsV ps)[2 * i]? = some (.int .i64 (x : Nat)) ∧ (pairsV ps)[2 * i + 1]? = some (.int .i64 (y : Nat)) := by
  intro ps
  induction ps with
  | nil => intro i x y h; simp at h
  | cons p ps ih =>
    intro i x y h
    have e : pairsV (p :: ps) = .int .i64 (p.1 : Nat) :: .int .i64 (p.2 : Nat) :: pairsV ps := rfl
    rw [e]
    match i with
    | 0 =>
      obtain rfl : p = (x, y) := by simpa using h
      exact ⟨rfl, rfl⟩
    | i + 1 =>
      have := ih i x y (by simpa using h)
      rw [show 2 * (i + 1) = 2 * i + 1 + 1 by omega, List.getElem?_cons_succ, List.getElem?_cons_succ, show 2 * i + 1 + 1 + 1 = (2 * i + 1) + 1 + 1 by omega, List.getElem?_cons_succ, List.getElem?_cons_succ]
      exact this
theorem RPairs.of_own {w : World} {base : Nat} {v : Value} {ps : List (Nat × Nat)} (h : OwnP w base v ps) (hne : 0 < ps.length) : ∃ g c, v = .slice (some ⟨g, 0, none⟩) ps.length c ∧ base ≤ g ∧ RPairs w w.heap.size g ps := by
  rcases h.2 with ⟨_, h0⟩ | ⟨g, cap, cur, rfl, hb, hg, r⟩
  · omega
  · have hr := Reads.of_own h
    obtain ⟨ad, e, hlt, hc⟩ := hr.2 hne
    obtain rfl : (⟨g, 0, none⟩ : Addr) = ad := by injection e
    refine ⟨g, cap, rfl, hb, hlt, fun i x y hi j v hj => ?_⟩
    obtain ⟨h1, h2⟩ := pairsV_at ps i x y hi
    match j, hj with
    | 0, hj =>
      obtain rfl : Value.int .i64 (x : Nat) = v := by simpa using hj
      have := hc _ _ h1
      rw [Nat.mul_comm i 2]
      rwa [Addr.add_mid, Nat.zero_add] at this
    | 1, hj =>
      obtain rfl : Value.int .i64 (y : Nat) = v := by simpa using hj
      have := hc _ _ h2
      rw [Nat.mul_comm i 2]
      rwa [Addr.add_mid, Nat.zero_add] at this
theorem infoP2 : (Try.prog.info? 59).map (·.size) = some 2 := by kernel_rfl
theorem zero_pr (w : World) : (zeroValue 59).run Try.prog w = .ok (.agg #[.int .i64 0, .int .i64 0]) w := Try.zeroValue59 w
theorem eqPair (a b c d : Int) (w : World) : (Op.equalIn 10000 59 (.agg #[.int .i64 a, .int .i64 b]) (.agg #[.int .i64 c, .int .i64 d])).run Try.prog w = .ok (a == c && b == d) w := by
  have u3 := Try.underlying3
  have a3 := Try.isAgg3
  have z3 := Try.sizeOf3
  rw [show (10000 : Nat) = 9999 + 1 from rfl, Op.equalIn]
  simp only [Sem.run_bind, run_underlying Try.underlying59, Result.andThen_ok]
  simp only [Std.Legacy.Range.forIn_eq_forIn_range', Std.Legacy.Range.size, Nat.sub_zero, Nat.add_sub_cancel, Nat.div_one, List.range'_succ, List.range'_zero, List.forIn_cons, List.forIn_nil]
  go_simp
  by_cases h1 : a = c <;> by_cases h2 : b = d <;> simp [h1, h2]
theorem best_step {b : Nat × Nat} {T : List (Nat × Nat)} {i : Nat} {p : Nat × Nat} (h : T[i]? = some p) : bestF b (T.take (i + 1)) = if betB (bestF b (T.take i)) p then p else bestF b (T.take i) := by
  rw [List.take_add_one, h]
  show bestF b (T.take i ++ [p]) = _
  unfold bestF
  rw [List.foldl_append]
  rfl
theorem sp_letters4 {k : Nat} (h1 : 1 ≤ k) (h4 : k ≤ 4) (bs : List Nat) : lettersS (spS k bs) 4 = true := by
  have := spS_letters h1 h4 bs
  simp only [lettersS, List.all_eq_true, Bool.and_eq_true, decide_eq_true_eq] at this ⊢
  intro b hb
  have := this b hb
  omega
theorem chk_rev {l : Word} (h : chkW l = 0) : chkW l.reverse = 0 := by
  unfold chkW lettersS at h ⊢
  rw [List.length_reverse, List.all_reverse]
  exact h
set_option maxRecDepth 100000 in
set_option maxHeartbeats 4000000 in
theorem found_at (A : Option Addr) (n c : Nat) (bs : List Nat) (a r k : Nat) (w : World) (hr : Reads w w.heap.size 1 A n (bs.map fun b : Nat => Value.int .u8 (b : Int))) (hn : n ≤ maxLen) (hb8 : ∀ b ∈ bs, b < 256) (ha : Int.tmod (a : Int) 4 = r) (ha2 : (a : Int) % 4 = r) (hk : (1 : Int) + r = k) (hk1 : 1 ≤ k) (hk4 : k ≤ 4) (hab : (a : Int) ≤ 255) :
    Calls Try.prog 7 #[.slice A n c, .int .u8 a] w fun e w' => e = .returned (.bool true) ∧ Below w.heap.size w w' := by
  have hbe := Below.refl w.heap.size w
  have hsp := Lib.hid (spelled_any A n c bs k 40 w w.heap.size hr hn hb8 hk1 hk4 (by omega))
  have hlen : (spS k (bs.take 40)).length ≤ 40 := by simp [spS]; omega
  have hchk : chkW (spS k (bs.take 40)) = 0 := by
    unfold chkW
    rw [if_neg (by omega), if_pos (sp_letters4 hk1 hk4 _)]
  obtain ⟨s, hs⟩ : ∃ s : ByteArray, (⟨(spS k (bs.take 40)).toArray⟩ : ByteArray) = s := ⟨_, rfl⟩
  have hb : spS k (bs.take 40) = bts s := by rw [← hs]; simp [bts]
  rw [hs] at hsp
  replace hsp := Lib.hid (show Calls Try.prog 40 #[.slice A n c, .int .i64 k, .int .i64 40] w fun e w' => e = .returned (.string s) ∧ Below w.heap.size w w' from hsp.out)
  rw [hb] at hlen hchk
  have hsz : s.size ≤ 40 := by rw [← bts_len]; exact hlen
  have hszi : (s.size : Int) ≤ 40 := by omega
  clear hs hb hr hb8
  have htw := Lib.hid (fun w' => twice_any s (by omega) w')
  obtain ⟨T, hT⟩ : ∃ T, twL (bts s) = T := ⟨_, rfl⟩
  rw [hT] at htw
  have hTl : (T.length == 0) = cleanS (bts s) := by rw [← hT, tw_len]
  have hTr : (twL (bts s).reverse).length = T.length := by rw [tw_rev, hT]
  have hcr := clean_rev (bts s)
  have hchr := chk_rev hchk
  have htwr := Lib.hid (fun w' => twice_any ⟨(bts s).reverse.toArray⟩ (by show (bts s).reverse.length ≤ 1000; rw [List.length_reverse]; omega) w')
  have hbr : bts ⟨(bts s).reverse.toArray⟩ = (bts s).reverse := by simp [bts]
  rw [hbr] at htwr
  have hclr := Lib.hid (fun w' => Clear_any ⟨(bts s).reverse.toArray⟩ w')
  rw [hbr, hchr, if_pos rfl, hcr] at hclr
  have hcl := Lib.hid (fun w' => Clear_any s w')
  rw [hchk, if_pos rfl] at hcl
  have hrep := Lib.hid (fun w' => Repeat_any s w')
  obtain ⟨R, hR⟩ : ∃ R, twL (bts s).reverse = R := ⟨_, rfl⟩
  rw [hR] at htwr hTr
  have hRH := Lib.hid hTr
  clear hR hcr hchr hbr hTr
  obtain ⟨tn, htn⟩ : ∃ tn, T.length = tn := ⟨_, rfl⟩
  rw [htn] at hTl
  have htnH := Lib.hid htn
  have hrev := Lib.hid (show ((bts s).drop s.size).reverse = [] by rw [List.drop_of_length_le (by rw [bts_len]; exact Nat.le_refl _)]; rfl)
  have htn6 : tn ≤ 1000000 := by
    rw [← htn, ← hT]
    have := twN_len (bts s) ((bts s).length / 2)
    have h2 : (bts s).length / 2 * ((bts s).length + 1) ≤ 40 * 41 := Nat.mul_le_mul (by omega) (by omega)
    unfold twL
    omega
  have htn6i : (tn : Int) ≤ 1000000 := by omega
  cases hc : cleanS (bts s) with
  | true =>
    have hre : repE (bts s) = 12 := by unfold repE; rw [if_neg (by simp [hchk]), if_pos hc]
    have hrv : repV (bts s) = (0, 0) := by unfold repV; rw [if_neg (by rw [hre]; decide)]
    rw [hre, hrv] at hrep
    rw [hc] at hTl hcl hclr
    have htni : ((tn : Int) == 0) = true := by rw [← hTl, Bool.eq_iff_iff]; simp
    clear hTl hT htn
    go_enter Try.func7, Try.ntmps7
    go_wp2_with (first
      | (go_at_call 40; (with_reducible refine hsp.out.mono ?_); rintro e w1 ⟨rfl, hb1⟩; clear hsp)
      | (go_at_call 41; (with_reducible refine (htw.out _).mono ?_); rintro e w2 ⟨v2, rfl, hv2, hb2⟩
         obtain ⟨A2, c2, rfl⟩ := hv2.form
         rw [htnH.out]
         replace hb2 := hb1.trans (hb2.mono hb1.size)
         clear hv2)
      | (go_at_call 13; (with_reducible refine (hrep.out _).mono ?_); rintro e w3 ⟨rfl, hb3⟩; replace hb3 := hb2.trans (hb3.mono hb2.size))
      | (go_at_call 15; (with_reducible refine (hcl.out _).mono ?_); rintro e w4 ⟨rfl, hb4⟩; replace hb4 := hb3.trans (hb4.mono hb3.size)))
    go_loopw [12, 13] (fun o v wr => ∃ m : Nat, m ≤ s.size ∧ v = .int .i64 ((m : Int) - 1) ∧ o = .string ⟨((bts s).drop m).reverse.toArray⟩ ∧ w4 = wr) (fun _ v _ => (intOf v + 1).toNat)
    case atStart => exact ⟨s.size, Nat.le_refl _, rfl, by rw [hrev.out], rfl⟩
    case round =>
      obtain ⟨m, hms, rfl, ho, rfl⟩ := hrel
      match m, hms with
      | m + 1, hms =>
        have hm1 : ((m + 1 : Nat) : Int) - 1 = m := by omega
        rw [hm1]
        obtain ⟨u, hu⟩ : ∃ u, m + 1 = u := ⟨_, rfl⟩
        rw [hu] at hms ho
        have hui : (m : Int) + 1 = u := by omega
        have hmu : (m : Int) ≤ u := by omega
        have hus : (u : Int) ≤ s.size := by omega
        have hmi : (m : Int) ≤ 40 := by omega
        have hwu : IntKind.i64.wrap (u : Int) = u := IntWalk.i64_in _ (by omega)
        obtain ⟨S, hS⟩ : ∃ S : ByteArray, (⟨((bts s).drop u).reverse.toArray⟩ : ByteArray) = S := ⟨_, rfl⟩
        obtain ⟨y, hy⟩ : ∃ y, s.extract m u = y := ⟨_, rfl⟩
        have hyb : bts y = ((bts s).take u).drop m := by rw [← hy, bts_extract]
        have hys : y.size ≤ 40 := by rw [← bts_len, hyb, List.length_drop, List.length_take, bts_len]; omega
        have hSs : S.size ≤ 40 := by rw [← hS]; show ((bts s).drop u).reverse.length ≤ 40; rw [List.length_reverse, List.length_drop, bts_len]; omega
        have hadd : ∀ w', (Op.stringOp .add S y).run Try.prog w' = .ok (.string (S ++ y)) w' := fun w' => run_string_add w' S y (by omega) (by omega)
        have hN := Lib.hid (show (⟨((bts s).drop m).reverse.toArray⟩ : ByteArray) = S ++ y from bts_inj (by
          rw [bts_append, hyb, ← hS]
          show ((bts s).drop m).reverse = ((bts s).drop u).reverse ++ _
          have hlt : m < (bts s).length := by rw [bts_len]; omega
          rw [← hu, List.drop_eq_getElem_cons hlt, List.reverse_cons, List.drop_take, List.drop_eq_getElem_cons hlt, show m + 1 - m = 1 by omega]
          rfl))
        rw [hS] at ho
        subst ho
        clear hS hyb hys hSs hu
        go_wp2_with (fail)
        go_roundw
        case rel => exact ⟨m, by omega, rfl, by rw [hN.out], by first | rfl | trivial⟩
        case measure => simp only [intOf]; omega
      | 0, hms =>
        rw [List.drop_zero] at ho
        subst ho
        rw [show ((0 : Nat) : Int) - 1 = -1 by rfl]
        clear hms
        go_wp2_with (first
          | (go_at_call 15; (with_reducible refine (hclr.out _).mono ?_); rintro e w5 ⟨rfl, hb5⟩; replace hb5 := hb4.trans (hb5.mono hb4.size))
          | (go_at_call 41; (with_reducible refine (htwr.out _).mono ?_); rintro e w6 ⟨v6, rfl, hv6, hb6⟩
             obtain ⟨A6, c6, rfl⟩ := hv6.form
             rw [hRH.out, htnH.out]
             replace hb6 := hb5.trans (hb6.mono hb5.size)
             clear hv6)
          | (go_at_call 12; (with_reducible refine (works_any _).mono ?_); rintro e w7 ⟨rfl, hb7⟩; replace hb7 := hb6.trans (hb7.mono hb6.size)))
        go_ret
        exact ⟨rfl, hb7⟩
  | false =>
    have hre : repE (bts s) = 0 := by unfold repE; rw [if_neg (by simp [hchk]), if_neg (by simp [hc])]
    have hrv : repV (bts s) = repR (bts s) := by unfold repV; rw [if_pos hre]
    rw [hre, hrv] at hrep
    rw [hc] at hTl hcl hclr
    have htni : ((tn : Int) == 0) = false := by rw [← hTl, Bool.eq_iff_iff]; simp
    have hpos : 0 < T.length := by
      rw [htn]
      rcases Nat.eq_zero_or_pos tn with h0 | h0
      · rw [h0] at hTl; cases hTl
      · exact h0
    have htn0 : (0 : Int) < tn := by rw [htn] at hpos; omega
    have hfit : ∀ p ∈ T, p.1 + 2 * p.2 ≤ 40 := fun p hp => by
      obtain ⟨a, k⟩ := p
      rw [← hT] at hp
      have := (tw_mem.1 hp).2.1
      rw [bts_len] at this
      show a + 2 * k ≤ 40
      omega
    have hbest := fun b r h => best_rep (l := bts s) (b := b) (r := r) hc h
    rw [hT] at hbest
    obtain ⟨p0, T0, hT0⟩ : ∃ p r, T = p :: r := by
      cases T with
      | nil => simp at hpos
      | cons p r => exact ⟨p, r, rfl⟩
    replace hbest := hbest p0 T0 hT0
    obtain ⟨q, hq⟩ : ∃ q, repR (bts s) = q := ⟨_, rfl⟩
    rw [hq] at hrep
    rw [hq] at hbest
    obtain ⟨rx, ry⟩ := q
    have hrep2 := Lib.hid (show ∀ w', Calls Try.prog 13 #[.string s] w' fun e w2 => e = .returned (.tuple #[.int .i64 (rx : Nat), .int .i64 (ry : Nat), .int .i64 0]) ∧ Below w'.heap.size w' w2 from hrep.out)
    clear hrep
    have hrep := hrep2
    have hbestH := Lib.hid hbest
    obtain ⟨x0, y0⟩ := p0
    have hT0H := Lib.hid (show T[0]? = some (x0, y0) by rw [hT0]; rfl)
    have hfit0 : x0 + 2 * y0 ≤ 40 := hfit (x0, y0) (by rw [hT0]; simp)
    have hfitH := Lib.hid hfit
    clear hfit hT0 hTl hT htn hbest hq hre hrv
    go_enter Try.func7, Try.ntmps7
    go_wp2_with (first
      | (go_at_call 40; (with_reducible refine hsp.out.mono ?_); rintro e w1 ⟨rfl, hb1⟩; clear hsp)
      | (go_at_call 41; (with_reducible refine (htw.out _).mono ?_); rintro e w2 ⟨v2, rfl, hv2, hb2⟩
         obtain ⟨g2, c2, rfl, hg2, hrp⟩ := RPairs.of_own hv2 hpos
         rw [htnH.out]
         replace hb2 := hb1.trans (hb2.mono hb1.size)
         have hz2 := Below.refl w2.heap.size w2
         clear hv2)
      | (go_at_call 13; (with_reducible refine (hrep.out _).mono ?_); rintro e w3 ⟨rfl, hb3⟩; have hz3 := hz2.trans (hb3.mono hz2.size); replace hb3 := hb2.trans (hb3.mono hb2.size))
      | (go_at_call 15; (with_reducible refine (hcl.out _).mono ?_); rintro e w4 ⟨rfl, hb4⟩; have hz4 := hz3.trans (hb4.mono hz3.size); replace hb4 := hb3.trans (hb4.mono hb3.size)))
    go_loopw [12, 13] (fun o v wr => ∃ m : Nat, m ≤ s.size ∧ v = .int .i64 ((m : Int) - 1) ∧ o = .string ⟨((bts s).drop m).reverse.toArray⟩ ∧ w4 = wr) (fun _ v _ => (intOf v + 1).toNat)
    case atStart => exact ⟨s.size, Nat.le_refl _, rfl, by rw [hrev.out], rfl⟩
    case round =>
      obtain ⟨m, hms, rfl, ho, rfl⟩ := hrel
      match m, hms with
      | m + 1, hms =>
        have hm1 : ((m + 1 : Nat) : Int) - 1 = m := by omega
        rw [hm1]
        obtain ⟨u, hu⟩ : ∃ u, m + 1 = u := ⟨_, rfl⟩
        rw [hu] at hms ho
        have hui : (m : Int) + 1 = u := by omega
        have hmu : (m : Int) ≤ u := by omega
        have hus : (u : Int) ≤ s.size := by omega
        have hmi : (m : Int) ≤ 40 := by omega
        have hwu : IntKind.i64.wrap (u : Int) = u := IntWalk.i64_in _ (by omega)
        obtain ⟨S, hS⟩ : ∃ S : ByteArray, (⟨((bts s).drop u).reverse.toArray⟩ : ByteArray) = S := ⟨_, rfl⟩
        obtain ⟨y, hy⟩ : ∃ y, s.extract m u = y := ⟨_, rfl⟩
        have hyb : bts y = ((bts s).take u).drop m := by rw [← hy, bts_extract]
        have hys : y.size ≤ 40 := by rw [← bts_len, hyb, List.length_drop, List.length_take, bts_len]; omega
        have hSs : S.size ≤ 40 := by rw [← hS]; show ((bts s).drop u).reverse.length ≤ 40; rw [List.length_reverse, List.length_drop, bts_len]; omega
        have hadd : ∀ w', (Op.stringOp .add S y).run Try.prog w' = .ok (.string (S ++ y)) w' := fun w' => run_string_add w' S y (by omega) (by omega)
        have hN := Lib.hid (show (⟨((bts s).drop m).reverse.toArray⟩ : ByteArray) = S ++ y from bts_inj (by
          rw [bts_append, hyb, ← hS]
          show ((bts s).drop m).reverse = ((bts s).drop u).reverse ++ _
          have hlt : m < (bts s).length := by rw [bts_len]; omega
          rw [← hu, List.drop_eq_getElem_cons hlt, List.reverse_cons, List.drop_take, List.drop_eq_getElem_cons hlt, show m + 1 - m = 1 by omega]
          rfl))
        rw [hS] at ho
        subst ho
        clear hS hyb hys hSs hu
        go_wp2_with (fail)
        go_roundw
        case rel => exact ⟨m, by omega, rfl, by rw [hN.out], by first | rfl | trivial⟩
        case measure => simp only [intOf]; omega
      | 0, hms =>
        rw [List.drop_zero] at ho
        subst ho
        rw [show ((0 : Nat) : Int) - 1 = -1 by rfl]
        clear hms
        go_wp2_with (first
          | (go_at_call 15; (with_reducible refine (hclr.out _).mono ?_); rintro e w5 ⟨rfl, hb5⟩; have hz5 := hz4.trans (hb5.mono hz4.size); replace hb5 := hb4.trans (hb5.mono hb4.size))
          | (go_at_call 41; (with_reducible refine (htwr.out _).mono ?_); rintro e w6 ⟨v6, rfl, hv6, hb6⟩
             obtain ⟨A6, c6, rfl⟩ := hv6.form
             rw [hRH.out, htnH.out]
             have hz6 := hz5.trans (hb6.mono hz5.size)
             replace hb6 := hb5.trans (hb6.mono hb5.size)
             have hrp6 := hrp.below hz6
             clear hv6)
          | (with_reducible show wpList _ _ _ (⟨_, .load 59 (.tmp 100), _, _, _, _⟩ :: _) _ _
             refine wpList_load_mid rfl 59 _ rfl g2 0 rfl [.int .i64 (x0 : Nat), .int .i64 (y0 : Nat)] _ (hrp6.2 0 _ _ hT0H.out) Try.underlying59 rfl infoP2 ?_)
          | (with_reducible show wpList _ _ _ (⟨_, .alloc 59, _, _, _, _⟩ :: _) _ _
             refine wpList_alloc_blk rfl 59 rfl _ zero_pr ?_
             intro w7 gb hB7 hgr7 hge7)
          | (with_reducible show wpList _ _ _ (⟨_, .store 59 (.tmp 16) _, _, _, _, _⟩ :: _) _ _
             refine wpList_store_blk rfl 59 _ _ rfl gb #[.int .i64 (x0 : Nat), .int .i64 (y0 : Nat)] rfl rfl 59 _ hB7 infoP2 rfl (by simp [Value.oneCell']) ?_
             intro w8 hB8 hgr8))
        have hgb : w2.heap.size ≤ gb := by have := hz6.size; omega
        have hwb : w.heap.size ≤ gb := by have := hb6.size; omega
        have hb7 := below_none hb6 hgr7 hb6.size
        have hz7 := below_none hz6 hgr7 hz6.size
        have hb8 := below_some hb7 hgr8 hb7.size hwb
        have hz8 := below_some hz7 hgr8 hz7.size hgb
        clear hb1 hb2 hb3 hb4 hb5 hb6 hb7 hz2 hz3 hz4 hz5 hz6 hz7 hgr7 hgr8 hge7 hB7 hrp6 htw htwr hclr hcl hrep
        go_loopw [104] (fun v wr => ∃ i x1 y1 : Nat, i ≤ tn ∧ v = .int .i64 i ∧ bestF (x0, y0) (T.take i) = (x1, y1) ∧ x1 + 2 * y1 ≤ 40 ∧ Blk wr gb 59 #[.int .i64 (x1 : Nat), .int .i64 (y1 : Nat)] ∧ Below w2.heap.size w2 wr ∧ Below w.heap.size w wr) (fun v _ => tn - (intOf v).toNat)
        case atStart => exact ⟨0, x0, y0, by omega, rfl, rfl, hfit0, hB8, hz8, hb8⟩
        case round =>
          obtain ⟨i, x1, y1, hi, rfl, hbst, hf1, hB, hz, hb⟩ := hrel
          clear hB8 hz8 hb8
          by_cases hlt : i < tn
          · have hlti : (i : Int) < tn := by omega
            obtain ⟨⟨x2, y2⟩, hTi⟩ : ∃ p, T[i]? = some p := ⟨_, List.getElem?_eq_getElem (by rw [htnH.out]; exact hlt)⟩
            have hf2 : x2 + 2 * y2 ≤ 40 := hfitH.out (x2, y2) (List.mem_of_getElem? hTi)
            have hld := (hrp.below hz).2 i x2 y2 hTi
            have hstep := Lib.hid (best_step (b := (x0, y0)) hTi)
            rw [hbst] at hstep
            obtain ⟨d2, hd2⟩ : ∃ d, 2 * y2 = d := ⟨_, rfl⟩
            obtain ⟨e2, he2⟩ : ∃ e, x2 + d2 = e := ⟨_, rfl⟩
            obtain ⟨d1, hd1⟩ : ∃ d, 2 * y1 = d := ⟨_, rfl⟩
            obtain ⟨e1, he1⟩ : ∃ e, x1 + d1 = e := ⟨_, rfl⟩
            have i1 : 2 * (y2 : Int) = d2 := by omega
            have i2 : (x2 : Int) + d2 = e2 := by omega
            have i3 : 2 * (y1 : Int) = d1 := by omega
            have i4 : (x1 : Int) + d1 = e1 := by omega
            have hbet := Lib.hid (show betB (x1, y1) (x2, y2) = (decide (e2 < e1) || (e2 == e1 && decide (y2 < y1))) by unfold betB; rw [show x2 + 2 * y2 = e2 by omega, show x1 + 2 * y1 = e1 by omega])
            go_wp2_with (first
              | (with_reducible show wpList _ _ _ (⟨_, .load 59 (.tmp 106), _, _, _, _⟩ :: _) _ _
                 refine wpList_load_mid rfl 59 _ rfl g2 (i * 2) rfl [.int .i64 (x2 : Nat), .int .i64 (y2 : Nat)] _ hld Try.underlying59 rfl infoP2 ?_)
              | (with_reducible show wpList _ _ _ (⟨_, .alloc 59, _, _, _, _⟩ :: _) _ _
                 refine wpList_alloc_blk rfl 59 rfl _ zero_pr ?_
                 intro w9 gx hB9 hgr9 hge9)
              | (with_reducible show wpList _ _ _ (⟨_, .store 59 (.tmp 18) _, _, _, _, _⟩ :: _) _ _
                 refine wpList_store_blk rfl 59 _ _ rfl gx #[.int .i64 (x2 : Nat), .int .i64 (y2 : Nat)] rfl rfl 59 _ hB9 infoP2 rfl (by simp [Value.oneCell']) ?_
                 intro wA hBA hgrA))
            have hgx : gb ≠ gx := by have := hB.lt; omega
            have hwx : w2.heap.size ≤ gx := by have := hz.size; omega
            have hBA1 := (hB.none_ hgr9).some_ hgrA hgx
            have hz9 := below_none hz hgr9 hz.size
            have hzA := below_some hz9 hgrA hz9.size hwx
            have hb9 := below_none hb hgr9 hb.size
            have hbA := below_some hb9 hgrA hb9.size (by have := hb.size; omega)
            have cA : wA.cell? ⟨gx, 0, none⟩ = some (.int .i64 (x2 : Nat)) := hBA.cell 0
            have cB : wA.cell? ⟨gx, 1, none⟩ = some (.int .i64 (y2 : Nat)) := hBA.cell 1
            have cC : wA.cell? ⟨gb, 0, none⟩ = some (.int .i64 (x1 : Nat)) := hBA1.cell 0
            have cD : wA.cell? ⟨gb, 1, none⟩ = some (.int .i64 (y1 : Nat)) := hBA1.cell 1
            have k1 : IntKind.i64.wrap (d2 : Int) = d2 := IntWalk.i64_in _ (by omega)
            have k2 : IntKind.i64.wrap (e2 : Int) = e2 := IntWalk.i64_in _ (by omega)
            have k3 : IntKind.i64.wrap (d1 : Int) = d1 := IntWalk.i64_in _ (by omega)
            have k4 : IntKind.i64.wrap (e1 : Int) = e1 := IntWalk.i64_in _ (by omega)
            go_quiet (fail)
            clear cA cB cC cD k1 k2 k3 k4 i1 i2 i3 i4 hd1 hd2 he1 he2
            have hQ2 := hBA.drewN nq
            have hQ1 := hBA1.drewN nq
            have hzq := below_drewN hzA nq
            have hbq := below_drewN hbA nq
            generalize wA.drewN nq = wq at hQ2 hQ1 hzq hbq ⊢
            have cA : wq.cell? ⟨gx, 1, none⟩ = some (.int .i64 (y2 : Nat)) := hQ2.cell 1
            have cB : wq.cell? ⟨gb, 1, none⟩ = some (.int .i64 (y1 : Nat)) := hQ1.cell 1
            by_cases n1 : e2 < e1
            · have hbt := Lib.hid (show betB (x1, y1) (x2, y2) = true by rw [hbet.out]; simp [n1])
              have n1i : (e2 : Int) < e1 := by omega
              clear n1
              go_wp2_with (first
                | (with_reducible show wpList _ _ _ (⟨_, .load 59 (.tmp 18), _, _, _, _⟩ :: _) _ _
                   refine wpList_load_blk rfl 59 _ rfl gx rfl 59 _ _ hQ2 Try.underlying59 rfl infoP2 ?_)
                | (with_reducible show wpList _ _ _ (⟨_, .store 59 (.tmp 16) _, _, _, _, _⟩ :: _) _ _
                   refine wpList_store_blk rfl 59 _ _ rfl gb #[.int .i64 (x2 : Nat), .int .i64 (y2 : Nat)] rfl rfl 59 _ hQ1 infoP2 rfl (by simp [Value.oneCell']) ?_
                   intro wB hBB hgrB))
              go_roundw
              case rel => exact ⟨i + 1, x2, y2, by omega, by go_num, by rw [hstep.out, if_pos hbt.out], hf2, hBB, below_some hzq hgrB hzq.size hgb, below_some hbq hgrB hbq.size hwb⟩
              case measure => simp only [intOf]; omega
            · have n1i : ¬ (e2 : Int) < e1 := by omega
              by_cases n2 : e2 = e1
              · by_cases n3 : y2 < y1
                · have hbt := Lib.hid (show betB (x1, y1) (x2, y2) = true by rw [hbet.out]; simp [n2, n3])
                  have n2i : ((e2 : Int) == e1) = true := by simp [n2]
                  have n3i : (y2 : Int) < y1 := by omega
                  clear n1 n2 n3
                  go_wp2_with (first
                    | (with_reducible show wpList _ _ _ (⟨_, .load 59 (.tmp 18), _, _, _, _⟩ :: _) _ _
                       refine wpList_load_blk rfl 59 _ rfl gx rfl 59 _ _ hQ2 Try.underlying59 rfl infoP2 ?_)
                    | (with_reducible show wpList _ _ _ (⟨_, .store 59 (.tmp 16) _, _, _, _, _⟩ :: _) _ _
                       refine wpList_store_blk rfl 59 _ _ rfl gb #[.int .i64 (x2 : Nat), .int .i64 (y2 : Nat)] rfl rfl 59 _ hQ1 infoP2 rfl (by simp [Value.oneCell']) ?_
                       intro wB hBB hgrB))
                  go_roundw
                  case rel => exact ⟨i + 1, x2, y2, by omega, by go_num, by rw [hstep.out, if_pos hbt.out], hf2, hBB, below_some hzq hgrB hzq.size hgb, below_some hbq hgrB hbq.size hwb⟩
                  case measure => simp only [intOf]; omega
                · have hbt := Lib.hid (show ¬ betB (x1, y1) (x2, y2) = true by rw [hbet.out]; simp [n2, n3])
                  have n2i : ((e2 : Int) == e1) = true := by simp [n2]
                  have n3i : ¬ (y2 : Int) < y1 := by omega
                  clear n1 n2 n3
                  go_wp2_with (fail)
                  go_roundw
                  case rel => exact ⟨i + 1, x1, y1, by omega, by go_num, by rw [hstep.out, if_neg hbt.out], hf1, hQ1, hzq, hbq⟩
                  case measure => simp only [intOf]; omega
              · have hbt := Lib.hid (show ¬ betB (x1, y1) (x2, y2) = true by rw [hbet.out]; simp [n1, n2])
                have n2i : ((e2 : Int) == e1) = false := by simp; omega
                clear n1 n2
                go_wp2_with (fail)
                go_roundw
                case rel => exact ⟨i + 1, x1, y1, by omega, by go_num, by rw [hstep.out, if_neg hbt.out], hf1, hQ1, hzq, hbq⟩
                case measure => simp only [intOf]; omega
          · have hlti : ¬ (i : Int) < tn := by omega
            have hfull := Lib.hid (show T.take i = T by rw [List.take_of_length_le (by rw [htnH.out]; omega)])
            rw [hfull.out, hbestH.out] at hbst
            obtain ⟨rfl, rfl⟩ : rx = x1 ∧ ry = y1 := by simpa using hbst
            have cA : wr.cell? ⟨gb, 0, none⟩ = some (.int .i64 (rx : Nat)) := hB.cell 0
            have cB : wr.cell? ⟨gb, 1, none⟩ = some (.int .i64 (ry : Nat)) := hB.cell 1
            clear hbst hlt
            have heq : ∀ w', (Op.equalIn 10000 59 (.agg #[.int .i64 (rx : Nat), .int .i64 (ry : Nat)]) (.agg #[.int .i64 (rx : Nat), .int .i64 (ry : Nat)])).run Try.prog w' = .ok true w' := fun w' => by rw [eqPair]; simp
            go_wp2_with (first
              | (go_at_call 12; (with_reducible refine (works_any _).mono ?_); rintro e w7 ⟨rfl, hb7⟩; replace hb7 := hb.trans (hb7.mono hb.size)))
            go_ret
            exact ⟨rfl, hb7⟩
theorem found_law (A : Option Addr) (n c : Nat) (bs : List Nat) (x : Int) (w : World) (hr : Reads w w.heap.size 1 A n (bs.map fun b : Nat => Value.int .u8 (b : Int))) (hn : n ≤ maxLen) (hb8 : ∀ b ∈ bs, b < 256) (hb : 0 ≤ x ∧ x ≤ 255) :
    Calls Try.prog 7 #[.slice A n c, .int .u8 x] w fun e w' => e = .returned (.bool true) ∧ Below w.heap.size w w' := by
  obtain ⟨a, rfl⟩ : ∃ a : Nat, x = a := ⟨x.toNat, by omega⟩
  obtain ⟨ha1, ha2⟩ := mod_facts a 4
  exact found_at A n c bs a (a % 4) (1 + a % 4) w hr hn hb8 ha2 ha1 (by omega) (by omega) (by omega) hb.2
end Go.Proofs.Ytdaaiockkbolbaa
