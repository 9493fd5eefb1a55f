/- The law's CurlContinued: all clear words that continue a word, the first one, and its beginnings. (Printed by gencont.py.) -/
import Derived.Test.YtdaaiockkbolbaaContP
import Derived.Test.YtdaaiockkbolbaaSpell
import Derived.Test.YtdaaiockkbolbaaWorks
import Derived.Deep.CutBlock
namespace Go.Proofs.Ytdaaiockkbolbaa
open Go.RowKit
theorem OwnS.head {w : World} {base : Nat} {v : Value} {t : ByteArray} {l : List ByteArray} (h : OwnS w base v (t :: l)) : ∃ g c, v = .slice (some ⟨g, 0, none⟩) (t :: l).length c ∧ g < w.heap.size ∧ w.cell? ⟨g, 0, none⟩ = some (.string t) := by
  have hr0 := h.reads
  rcases h.2 with ⟨_, h0⟩ | ⟨g, cap, cur, rfl, _, hg, _⟩
  · simp at h0
  · obtain ⟨A1, c1, he, hrl⟩ := hr0
    obtain rfl : some ⟨g, 0, none⟩ = A1 := by injection he
    obtain ⟨ad, t', hA, hadb, hcell, hlt'⟩ := hrl.at_ (show 0 < (t :: l).length by simp)
    obtain rfl : (⟨g, 0, none⟩ : Addr) = ad := by injection hA
    obtain rfl : t = t' := by simpa using hlt'.out
    exact ⟨g, cap, rfl, hadb, hcell⟩
theorem letters_add {x : Word} {k r : Nat} (hk : k ≤ 4) (h : lettersS x (k : Int) = true) (hr : r < k) : lettersS (x ++ [(97 + r).toUInt8]) (k : Int) = true := by
  simp only [lettersS, List.all_append, List.all_cons, List.all_nil, Bool.and_true, Bool.and_eq_true] at h ⊢
  refine ⟨h, ?_⟩
  rw [Nat.toUInt8, UInt8.toNat_ofNat', Nat.mod_eq_of_lt (by omega)]
  simp only [decide_eq_true_eq]
  omega
theorem nextP_clean {x : Word} {q : Nat} (h : cleanS (x ++ [(97 + q).toUInt8]) = true) : nextP x (q + 1) = nextP x q ++ [(97 + q).toUInt8] := by rw [nextP, if_pos h]
theorem nextP_unclean {x : Word} {q : Nat} (h : ¬ cleanS (x ++ [(97 + q).toUInt8]) = true) : nextP x (q + 1) = nextP x q := by rw [nextP, if_neg h]
set_option maxRecDepth 100000 in
set_option maxHeartbeats 4000000 in
theorem cont_at (A : Option Addr) (n c : Nat) (bs : List Nat) (a b r k m : Nat) (w : World) (hr : Reads w w.heap.size 1 A n (bs.map fun b : Nat => Value.int .u8 (b : Int))) (hn : n ≤ maxLen) (hb8 : ∀ b ∈ bs, b < 256) (ha : Int.tmod (a : Int) 3 = r) (ha2 : (a : Int) % 3 = r) (hk : (1 : Int) + r = k) (hk1 : 1 ≤ k) (_hk3 : k ≤ 3) (hab : (a : Int) ≤ 255) (hm : Int.tmod (b : Int) 7 = m) (hm2 : (b : Int) % 7 = m) (_hm6 : m ≤ 6) (hbb : (b : Int) ≤ 255) :
    Calls Try.prog 8 #[.slice A n c, .int .u8 a, .int .u8 b] w fun e w' => e = .returned (.bool true) ∧ Below w.heap.size w w' := by
  have hk4 : k ≤ 4 := by omega
  have hl : bs.length = n := by have := hr.1; simpa using this
  have hlH := Lib.hid hl
  have hb8H := Lib.hid hb8
  unfold maxLen at hn
  have hk0 : ((k : Int) == 0) = false := by simp; omega
  have hki : (k : Int) ≤ 3 := by omega
  have hk1i : (1 : Int) ≤ k := by omega
  clear hl hb8
  go_enter Try.func8, Try.ntmps8
  go_upto_block 0 with (fail)
  go_cut [8] from 9 to 61 (fun o wx => ∃ s : ByteArray, o = .string s ∧ s.size ≤ 20 ∧ lettersS (bts s) (k : Int) = true ∧ cleanS (bts s) = true ∧ Below w.heap.size w wx)
  case first =>
    go_wp2_with (fail)
    go_loopw [8, 35] (fun o v wr => ∃ (i : Nat) (s : ByteArray), i ≤ n ∧ i ≤ 20 ∧ v = .int .i64 i ∧ o = .string s ∧ s.size ≤ i ∧ lettersS (bts s) (k : Int) = true ∧ cleanS (bts s) = true ∧ Below w.heap.size w wr) (fun _ v _ => n - (intOf v).toNat)
    case atStart => exact ⟨0, ⟨#[]⟩, by omega, by omega, rfl, rfl, by decide, rfl, rfl, Below.refl _ _⟩
    case round =>
      obtain ⟨i, s, hin, hi20, rfl, rfl, hsi, hlet, hcl, hbe⟩ := hrel
      by_cases hlt : i < n
      · have hlti : (i : Int) < n := by omega
        obtain ⟨ad, u, rfl, hadb, hu, hcell⟩ := Reads.at_ (hr.below hbe) hlt
        obtain ⟨x, hx⟩ : ∃ x, bs[i]? = some x := ⟨_, List.getElem?_eq_getElem (by rw [hlH.out]; exact hlt)⟩
        obtain rfl : u = .int .u8 (x : Int) := by
          rw [List.getElem?_map, hx] at hu
          simpa using hu.symm
        have hx2 := hb8H.out x (List.mem_of_getElem? hx)
        have hletH := Lib.hid hlet
        have hclH := Lib.hid hcl
        clear hlet hcl
        by_cases hem : i = 20
        · have hemi : ((i : Int) == 20) = true := by simp [hem]
          clear hu hx hem
          go_wp2_with (fail)
          go_meet
          exact ⟨s, rfl, by omega, hletH.out, hclH.out, hbe⟩
        · have hemi : ((i : Int) == 20) = false := by simp; omega
          have hi19 : i + 1 ≤ 20 := by omega
          have hss : s.size ≤ 20 := by omega
          have hsI : (s.size : Int) ≤ 8388608 := by omega
          have hx2i : (x : Int) ≤ 255 := by omega
          clear hu hx hem
          go_wp2_with (fail)
          go_loopw [8, 43] (fun o v wr2 => ∃ j : Nat, j ≤ k ∧ v = .int .i64 j ∧ o = .string s ∧ Below w.heap.size w wr2) (fun _ v _ => k - (intOf v).toNat)
          case atStart => exact ⟨0, by omega, rfl, rfl, hbe⟩
          case round =>
            clear hbe
            obtain ⟨j, hj, rfl, rfl, hbe⟩ := hrel
            by_cases hjk : j < k
            · have hjki : (j : Int) < k := by omega
              obtain ⟨xj, hxj⟩ : ∃ z, x + j = z := ⟨_, rfl⟩
              have hxji : (x : Int) + j = xj := by omega
              have hxjb : (xj : Int) ≤ 300 := by omega
              obtain ⟨q1, q2⟩ := mod_facts xj k
              obtain ⟨rr, hrr⟩ : ∃ rr, xj % k = rr := ⟨_, rfl⟩
              have hrk : rr < k := by rw [← hrr]; exact Nat.mod_lt _ (by omega)
              rw [hrr] at q1 q2
              have hlet := Lib.hid (fun w' => letter_any (k := rr) (by omega) w')
              obtain ⟨y, hy⟩ : ∃ y : ByteArray, (⟨#[(97 + rr).toUInt8]⟩ : ByteArray) = y := ⟨_, rfl⟩
              rw [hy] at hlet
              have hyb : bts y = [(97 + rr).toUInt8] := by rw [← hy]; rfl
              have hys1 : y.size = 1 := by rw [← hy]; rfl
              have hadd : ∀ w', (Op.stringOp .add s y).run Try.prog w' = .ok (.string (s ++ y)) w' := fun w' => run_string_add w' s y hsI (by omega)
              have hsy : (s ++ y).size = s.size + 1 := by rw [← bts_len, bts_append, List.length_append, bts_len, bts_len, hys1]
              have hsyl := Lib.hid (show lettersS (bts (s ++ y)) (k : Int) = true by rw [bts_append, hyb]; exact letters_add hk4 hletH.out hrk)
              have htw := Lib.hid (fun w' => twice_any (s ++ y) (by omega) w')
              have htl := tw_len (bts (s ++ y))
              obtain ⟨T, hT⟩ : ∃ T, twL (bts (s ++ y)) = T := ⟨_, rfl⟩
              rw [hT] at htl htw
              obtain ⟨tn, htn⟩ : ∃ tn, T.length = tn := ⟨_, rfl⟩
              rw [htn] at htl
              have htnH := Lib.hid htn
              obtain ⟨q, hq⟩ : ∃ q, cleanS (bts (s ++ y)) = q := ⟨_, rfl⟩
              rw [hq] at htl
              have hqH := Lib.hid hq
              have htli : ((tn : Int) == 0) = q := by rw [← htl, Bool.eq_iff_iff]; simp
              have hsyH := Lib.hid hsy
              clear hy hT htl htn hq hrr hxj hyb hsy hys1
              cases q with
              | true =>
                go_wp2_with (first
                  | (go_at_call 42; refine (hlet.out _).mono ?_; rintro e w4 ⟨rfl, rfl⟩)
                  | (go_at_call 41; refine (htw.out _).mono ?_; rintro e w5 ⟨v5, rfl, hv5, hb5⟩
                     obtain ⟨A5, c5, rfl⟩ := hv5.form
                     rw [htnH.out]
                     have hbe5 := hbe.trans (hb5.mono hbe.size)
                     clear hv5 hb5))
                go_roundw
                case rel => exact ⟨i + 1, s ++ y, by omega, by omega, by go_num, rfl, by rw [hsyH.out]; omega, hsyl.out, hqH.out, hbe5⟩
                case measure => simp only [intOf]; omega
              | false =>
                go_wp2_with (first
                  | (go_at_call 42; refine (hlet.out _).mono ?_; rintro e w4 ⟨rfl, rfl⟩)
                  | (go_at_call 41; refine (htw.out _).mono ?_; rintro e w5 ⟨v5, rfl, hv5, hb5⟩
                     obtain ⟨A5, c5, rfl⟩ := hv5.form
                     rw [htnH.out]
                     have hbe5 := hbe.trans (hb5.mono hbe.size)
                     clear hv5 hb5))
                go_roundw
                case rel => exact ⟨j + 1, by omega, by go_num, rfl, hbe5⟩
                case measure => simp only [intOf]; omega
            · have hjki : ¬ (j : Int) < k := by omega
              go_wp2_with (fail)
              go_roundw
              case rel => exact ⟨i + 1, s, by omega, by omega, by go_num, rfl, by omega, hletH.out, hclH.out, hbe⟩
              case measure => simp only [intOf]; omega
      · have hlti : ¬ (i : Int) < n := by omega
        have hletH := Lib.hid hlet
        have hclH := Lib.hid hcl
        clear hlet hcl
        go_wp2_with (fail)
        go_meet
        exact ⟨s, rfl, by omega, hletH.out, hclH.out, hbe⟩
  case rest =>
    obtain ⟨s, rfl, hs20, hlet, hcl, hb0⟩ := hcut
    have hletH := Lib.hid hlet
    have hclH := Lib.hid hcl
    obtain ⟨d, hd⟩ : ∃ d, s.size + m = d := ⟨_, rfl⟩
    have hdi : (s.size : Int) + m = d := by omega
    have hd26 : (d : Int) ≤ 26 := by omega
    have hs20i : (s.size : Int) ≤ 20 := by omega
    clear hlet hcl hr hlH hb8H
    go_wp2_with (fail)
    go_loopw [14, 15, 16] (fun o1 o2 v wr => ∃ j i : Nat, s.size + j = i ∧ j ≤ m + 1 ∧ v = .int .i64 i ∧ OwnS wr wc.heap.size o1 (clX s k (min j m)) ∧ o2 = .string ⟨(nextP (bts s) (if j = 0 then 0 else k)).toArray⟩ ∧ Below wc.heap.size wc wr) (fun _ _ v _ => d + 1 - (intOf v).toNat)
    case atStart =>
      refine ⟨0, s.size, rfl, by omega, rfl, ?_, rfl, (Below.refl _ _).alloc (Nat.le_refl _) _⟩
      rw [Nat.zero_min]
      exact ⟨rfl, .inr ⟨wc.heap.size, 1, #[.string s], rfl, Nat.le_refl _, Blk.new wc _ _, Nat.le_refl _, by decide, rfl, rfl⟩⟩
    case round =>
      obtain ⟨j, i, hji, hjm1, rfl, ho1, hn0, hbe0⟩ := hrel
      obtain ⟨W1, rfl⟩ : ∃ W1, W1 = wr := ⟨_, rfl⟩
      have hs0 := hbe0.size
      by_cases hjm : j < m
      · have hgi : (i : Int) < d := by omega
        by_cases hz : j = 0
        · have hzi : ((i : Int) == s.size) = true := by simp; omega
          rw [if_pos hz] at hn0
          rw [show min j m = j by omega] at ho1
          have hl4 := clX_len s k hk4 j
          have hp4 : 4 ^ j ≤ 4 ^ 6 := Nat.pow_le_pow_right (by omega) (by omega)
          have h46 : (4 : Nat) ^ 6 = 4096 := by decide
          have hsz := Lib.hid (show ∀ t ∈ clX s k j, t.size ≤ 26 by
            intro t ht
            obtain ⟨zz, h1, h2, _⟩ := clX_mem j t ht
            rw [← bts_len, h1, List.length_append, bts_len, h2]
            omega)
          have hT := Lib.hid (show (clX s k j).flatMap (fun t => clE t k) = clX s k (j + 1) from rfl)
          obtain ⟨l, hl⟩ : ∃ l, clX s k j = l := ⟨_, rfl⟩
          rw [hl] at hl4 hsz hT ho1
          have hls : l = [s] := by rw [← hl, hz]; rfl
          have hl1 := Lib.hid (show l.length = 1 by rw [hls]; rfl)
          have hlsH := Lib.hid hls
          clear hls
          have hll : l.length ≤ 4096 := by omega
          clear hl4 hp4 h46 hl
          have ho1' := ho1
          obtain ⟨A1, c1, rfl, hrl⟩ := ho1.reads
          subst hn0
          go_wp2_with (fail)
          go_loopw [15, 17, 85] (fun o2 o3 v wr2 => ∃ p : Nat, p ≤ l.length ∧ v = .int .i64 p ∧ OwnS wr2 W1.heap.size o3 ((l.take p).flatMap fun t => clE t k) ∧ o2 = .string ⟨(nextP (bts s) (if p = 0 then 0 else k)).toArray⟩ ∧ Below W1.heap.size W1 wr2) (fun _ _ v _ => l.length - (intOf v).toNat)
          case atStart => exact ⟨0, by omega, rfl, OwnS.nil _ _, rfl, Below.refl _ _⟩
          case round =>
            obtain ⟨p, hp, rfl, ho, rfl, hbe⟩ := hrel
            by_cases hlt2 : p < l.length
            · have hlt2i : (p : Int) < l.length := by omega
              obtain ⟨ad, t, rfl, hadb, hcell, hlt'⟩ := (hrl.later (Nat.le_refl _) hbe).at_ hlt2
              have hts := hsz.out t (List.mem_of_getElem? hlt'.out)
              have hOL := clF_len (l.take p) (k := k) hk4
              rw [List.length_take, Nat.min_eq_left (by omega)] at hOL
              have hNext := Lib.hid (show (l.take (p + 1)).flatMap (fun t => clE t k) = ((l.take p).flatMap fun t => clE t k) ++ clE t k by rw [List.take_add_one, hlt'.out]; simp)
              have hp0 := Lib.hid (show p = 0 by have := hl1.out; omega)
              obtain rfl : t = s := by
                have := hlt'.out
                rw [hlsH.out, hp0.out] at this
                simpa using this.symm
              rw [if_pos hp0.out]
              obtain ⟨P, hP⟩ : ∃ P, ((l.take p).flatMap fun t => clE t k) = P := ⟨_, rfl⟩
              rw [hP] at ho hOL hNext
              have htsI : (t.size : Int) ≤ 8388608 := by omega
              clear hP
              go_wp2_with (fail)
              go_loopw [15, 17, 90] (fun o2 o3 v wr3 => ∃ e : Nat, e ≤ k ∧ v = .int .i64 e ∧ OwnS wr3 W1.heap.size o3 (P ++ clE t e) ∧ o2 = .string ⟨(nextP (bts t) e).toArray⟩ ∧ Below W1.heap.size W1 wr3) (fun _ _ v _ => k - (intOf v).toNat)
              case atStart => exact ⟨0, by omega, rfl, by simpa [clE, extB] using ho, rfl, hbe⟩
              case round =>
                clear ho hbe
                obtain ⟨e, he, rfl, ho, rfl, hbe⟩ := hrel
                by_cases hek : e < k
                · have heki : (e : Int) < k := by omega
                  have hsb := hbe.size
                  obtain ⟨y, hy⟩ : ∃ y : ByteArray, (⟨#[(97 + e).toUInt8]⟩ : ByteArray) = y := ⟨_, rfl⟩
                  have hyB := Lib.hid (show bts y = [(97 + e).toUInt8] by rw [← hy]; rfl)
                  have hys1 : y.size ≤ 1 := by rw [← hy]; exact Nat.le_refl 1
                  have hys : (y.size : Int) ≤ 8388608 := by omega
                  have hadd : ∀ w', (Op.stringOp .add t y).run Try.prog w' = .ok (.string (t ++ y)) w' := fun w' => run_string_add w' t y htsI hys
                  have hN := Lib.hid (show P ++ clE t (e + 1) = (P ++ clE t e) ++ (if cleanS (bts (t ++ y)) then [t ++ y] else []) by rw [clE_succ, hy, List.append_assoc])
                  have hlet := Lib.hid (fun w' => letter_any (k := e) (by omega) w')
                  rw [hy] at hlet
                  have hxs : (t ++ y).size ≤ 1000 := by
                    have : (t ++ y).size = t.size + y.size := by rw [← bts_len, bts_append, List.length_append, bts_len, bts_len]
                    omega
                  have htw := Lib.hid (fun w' => twice_any (t ++ y) hxs w')
                  have htl := tw_len (bts (t ++ y))
                  have hcj := clE_len t e
                  have hPL : (P ++ clE t e).length ≤ 1000000000 := by rw [List.length_append]; omega
                  obtain ⟨q, hq⟩ : ∃ q, cleanS (bts (t ++ y)) = q := ⟨_, rfl⟩
                  have hqc := Lib.hid (show cleanS (bts t ++ [(97 + e).toUInt8]) = q by rw [← hyB.out, ← bts_append, hq])
                  rw [hq] at hN htl
                  obtain ⟨T, hT2⟩ : ∃ T, twL (bts (t ++ y)) = T := ⟨_, rfl⟩
                  rw [hT2] at htl htw
                  obtain ⟨tn, htn⟩ : ∃ tn, T.length = tn := ⟨_, rfl⟩
                  rw [htn] at htl
                  have htli : ((tn : Int) == 0) = q := by rw [← htl, Bool.eq_iff_iff]; simp
                  have htnH := Lib.hid htn
                  obtain ⟨PK, hPK⟩ : ∃ PK, P ++ clE t e = PK := ⟨_, rfl⟩
                  rw [hPK] at hPL hN ho
                  obtain ⟨Bn, hBn0⟩ : ∃ Bn : ByteArray, (⟨(nextP (bts t) e).toArray⟩ : ByteArray) = Bn := ⟨_, rfl⟩
                  have hBn := Lib.hid hBn0
                  have hBnL := nextP_le (bts t) e
                  have hBnI : (Bn.size : Int) ≤ 8388608 := by rw [← hBn0]; show (((nextP (bts t) e).length : Nat) : Int) ≤ _; omega
                  rw [hBn0]
                  clear hq hy hPK hcj hT2 htl htn hBn0 hBnL
                  cases q with
                  | true =>
                    rw [if_pos rfl] at hN
                    have hNx := Lib.hid (show (⟨(nextP (bts t) (e + 1)).toArray⟩ : ByteArray) = Bn ++ y from bts_inj (by rw [bts_append, hyB.out, ← hBn.out]; show nextP (bts t) (e + 1) = nextP (bts t) e ++ _; exact nextP_clean hqc.out))
                    have hadd2 : ∀ w', (Op.stringOp .add Bn y).run Try.prog w' = .ok (.string (Bn ++ y)) w' := fun w' => run_string_add w' Bn y hBnI hys
                    go_wp2_with (first
                        | (go_at_call 42; refine (hlet.out _).mono ?_; rintro e' w4 ⟨rfl, rfl⟩)
                        | (go_at_call 41; refine (htw.out _).mono ?_; rintro e' w5 ⟨v5, rfl, hv5, hb5⟩
                           obtain ⟨A5, c5, rfl⟩ := hv5.form
                           rw [htnH.out]
                           have ho5 := ho.callee hb5
                           have hbe5 := hbe.trans (hb5.mono hbe.size)
                           clear hv5 hb5)
                        | (at_builtin
                           refine wpList_pushS rfl _ _ rfl rfl (ho5.none_ (World.grownBy_alloc w5 _ none)) w5.heap.size 1 (t ++ y) rfl (Blk.new w5 _ _) hPL (by have := hbe5.size; show _ ≤ (w5.heap.push _).size; simp; omega) ?_
                           intro g6 cap6 w6 ho6 hgr6 _ _
                           have hb6 := (hbe5.alloc hbe5.size (.cells #[.string (t ++ y)] 9)).grown hgr6 (by have := hbe5.size; show _ ≤ (w5.heap.push _).size; simp; omega) (fun g hg => ho5.ge hg)))
                    go_roundw
                    case rel => exact ⟨e + 1, by omega, by go_num, by rw [hN.out]; simpa [OwnS] using ho6, by first | rfl | rw [hNx.out], hb6⟩
                    case measure => simp only [intOf]; omega
                  | false =>
                    rw [if_neg (by decide), List.append_nil] at hN
                    have hNx := Lib.hid (show (⟨(nextP (bts t) (e + 1)).toArray⟩ : ByteArray) = Bn from by rw [nextP_unclean (by rw [hqc.out]; decide), hBn.out])
                    go_wp2_with (first
                        | (go_at_call 42; refine (hlet.out _).mono ?_; rintro e' w4 ⟨rfl, rfl⟩)
                        | (go_at_call 41; refine (htw.out _).mono ?_; rintro e' w5 ⟨v5, rfl, hv5, hb5⟩
                           obtain ⟨A5, c5, rfl⟩ := hv5.form
                           rw [htnH.out]
                           have ho5 := ho.callee hb5
                           have hbe5 := hbe.trans (hb5.mono hbe.size)
                           clear hv5 hb5)
    )
                    go_roundw
                    case rel => exact ⟨e + 1, by omega, by go_num, by rw [hN.out]; exact ho5, by first | rfl | rw [hNx.out], hbe5⟩
                    case measure => simp only [intOf]; omega
                · have heki : ¬ (e : Int) < k := by omega
                  have hfull := Lib.hid (show P ++ clE t e = P ++ clE t k by rw [show e = k by omega])
                  rw [hfull.out, ← hNext.out] at ho
                  have hek2 : e = k := by omega
                  rw [hek2]
                  go_wp2_with (fail)
                  go_roundw
                  case rel => exact ⟨p + 1, by omega, by go_num, ho, by first | rfl | rw [if_neg (by omega)], hbe⟩
                  case measure => simp only [intOf]; omega
            · have hlt2i : ¬ (p : Int) < l.length := by omega
              rw [List.take_of_length_le (by omega), hT.out] at ho
              rw [if_neg (by have := hl1.out; omega)]
              go_wp2_with (fail)
              go_roundw
              case rel => exact ⟨j + 1, i + 1, by omega, by omega, by go_num, by rw [show min (j + 1) m = j + 1 by omega]; exact ho.rebase hs0, by rw [if_neg (by omega)], hbe0.trans (hbe.mono hs0)⟩
              case measure => simp only [intOf]; omega
        · have hzi : ((i : Int) == s.size) = false := by simp; omega
          rw [if_neg hz] at hn0
          rw [show min j m = j by omega] at ho1
          have hl4 := clX_len s k hk4 j
          have hp4 : 4 ^ j ≤ 4 ^ 6 := Nat.pow_le_pow_right (by omega) (by omega)
          have h46 : (4 : Nat) ^ 6 = 4096 := by decide
          have hsz := Lib.hid (show ∀ t ∈ clX s k j, t.size ≤ 26 by
            intro t ht
            obtain ⟨zz, h1, h2, _⟩ := clX_mem j t ht
            rw [← bts_len, h1, List.length_append, bts_len, h2]
            omega)
          have hT := Lib.hid (show (clX s k j).flatMap (fun t => clE t k) = clX s k (j + 1) from rfl)
          obtain ⟨l, hl⟩ : ∃ l, clX s k j = l := ⟨_, rfl⟩
          rw [hl] at hl4 hsz hT ho1
          have hll : l.length ≤ 4096 := by omega
          clear hl4 hp4 h46 hl
          have ho1' := ho1
          obtain ⟨A1, c1, rfl, hrl⟩ := ho1.reads
          subst hn0
          go_wp2_with (fail)
          go_loopw [15, 17, 85] (fun o2 o3 v wr2 => ∃ p : Nat, p ≤ l.length ∧ v = .int .i64 p ∧ OwnS wr2 W1.heap.size o3 ((l.take p).flatMap fun t => clE t k) ∧ o2 = .string ⟨(nextP (bts s) k).toArray⟩ ∧ Below W1.heap.size W1 wr2) (fun _ _ v _ => l.length - (intOf v).toNat)
          case atStart => exact ⟨0, by omega, rfl, OwnS.nil _ _, rfl, Below.refl _ _⟩
          case round =>
            obtain ⟨p, hp, rfl, ho, rfl, hbe⟩ := hrel
            by_cases hlt2 : p < l.length
            · have hlt2i : (p : Int) < l.length := by omega
              obtain ⟨ad, t, rfl, hadb, hcell, hlt'⟩ := (hrl.later (Nat.le_refl _) hbe).at_ hlt2
              have hts := hsz.out t (List.mem_of_getElem? hlt'.out)
              have hOL := clF_len (l.take p) (k := k) hk4
              rw [List.length_take, Nat.min_eq_left (by omega)] at hOL
              have hNext := Lib.hid (show (l.take (p + 1)).flatMap (fun t => clE t k) = ((l.take p).flatMap fun t => clE t k) ++ clE t k by rw [List.take_add_one, hlt'.out]; simp)
              obtain ⟨P, hP⟩ : ∃ P, ((l.take p).flatMap fun t => clE t k) = P := ⟨_, rfl⟩
              rw [hP] at ho hOL hNext
              have htsI : (t.size : Int) ≤ 8388608 := by omega
              clear hP
              go_wp2_with (fail)
              go_loopw [15, 17, 90] (fun o2 o3 v wr3 => ∃ e : Nat, e ≤ k ∧ v = .int .i64 e ∧ OwnS wr3 W1.heap.size o3 (P ++ clE t e) ∧ o2 = .string ⟨(nextP (bts s) k).toArray⟩ ∧ Below W1.heap.size W1 wr3) (fun _ _ v _ => k - (intOf v).toNat)
              case atStart => exact ⟨0, by omega, rfl, by simpa [clE, extB] using ho, rfl, hbe⟩
              case round =>
                clear ho hbe
                obtain ⟨e, he, rfl, ho, rfl, hbe⟩ := hrel
                by_cases hek : e < k
                · have heki : (e : Int) < k := by omega
                  have hsb := hbe.size
                  obtain ⟨y, hy⟩ : ∃ y : ByteArray, (⟨#[(97 + e).toUInt8]⟩ : ByteArray) = y := ⟨_, rfl⟩
                  have hyB := Lib.hid (show bts y = [(97 + e).toUInt8] by rw [← hy]; rfl)
                  have hys1 : y.size ≤ 1 := by rw [← hy]; exact Nat.le_refl 1
                  have hys : (y.size : Int) ≤ 8388608 := by omega
                  have hadd : ∀ w', (Op.stringOp .add t y).run Try.prog w' = .ok (.string (t ++ y)) w' := fun w' => run_string_add w' t y htsI hys
                  have hN := Lib.hid (show P ++ clE t (e + 1) = (P ++ clE t e) ++ (if cleanS (bts (t ++ y)) then [t ++ y] else []) by rw [clE_succ, hy, List.append_assoc])
                  have hlet := Lib.hid (fun w' => letter_any (k := e) (by omega) w')
                  rw [hy] at hlet
                  have hxs : (t ++ y).size ≤ 1000 := by
                    have : (t ++ y).size = t.size + y.size := by rw [← bts_len, bts_append, List.length_append, bts_len, bts_len]
                    omega
                  have htw := Lib.hid (fun w' => twice_any (t ++ y) hxs w')
                  have htl := tw_len (bts (t ++ y))
                  have hcj := clE_len t e
                  have hPL : (P ++ clE t e).length ≤ 1000000000 := by rw [List.length_append]; omega
                  obtain ⟨q, hq⟩ : ∃ q, cleanS (bts (t ++ y)) = q := ⟨_, rfl⟩
                  have hqc := Lib.hid (show cleanS (bts t ++ [(97 + e).toUInt8]) = q by rw [← hyB.out, ← bts_append, hq])
                  rw [hq] at hN htl
                  obtain ⟨T, hT2⟩ : ∃ T, twL (bts (t ++ y)) = T := ⟨_, rfl⟩
                  rw [hT2] at htl htw
                  obtain ⟨tn, htn⟩ : ∃ tn, T.length = tn := ⟨_, rfl⟩
                  rw [htn] at htl
                  have htli : ((tn : Int) == 0) = q := by rw [← htl, Bool.eq_iff_iff]; simp
                  have htnH := Lib.hid htn
                  obtain ⟨PK, hPK⟩ : ∃ PK, P ++ clE t e = PK := ⟨_, rfl⟩
                  rw [hPK] at hPL hN ho
                  obtain ⟨Bn, hBn0⟩ : ∃ Bn : ByteArray, (⟨(nextP (bts s) k).toArray⟩ : ByteArray) = Bn := ⟨_, rfl⟩
                  have hBn := Lib.hid hBn0
                  have hBnL := nextP_le (bts s) k
                  have hBnI : (Bn.size : Int) ≤ 8388608 := by rw [← hBn0]; show (((nextP (bts s) k).length : Nat) : Int) ≤ _; omega
                  rw [hBn0]
                  clear hq hy hPK hcj hT2 htl htn hBn0 hBnL
                  cases q with
                  | true =>
                    rw [if_pos rfl] at hN
                    have hNx := hBn
                    go_wp2_with (first
                        | (go_at_call 42; refine (hlet.out _).mono ?_; rintro e' w4 ⟨rfl, rfl⟩)
                        | (go_at_call 41; refine (htw.out _).mono ?_; rintro e' w5 ⟨v5, rfl, hv5, hb5⟩
                           obtain ⟨A5, c5, rfl⟩ := hv5.form
                           rw [htnH.out]
                           have ho5 := ho.callee hb5
                           have hbe5 := hbe.trans (hb5.mono hbe.size)
                           clear hv5 hb5)
                        | (at_builtin
                           refine wpList_pushS rfl _ _ rfl rfl (ho5.none_ (World.grownBy_alloc w5 _ none)) w5.heap.size 1 (t ++ y) rfl (Blk.new w5 _ _) hPL (by have := hbe5.size; show _ ≤ (w5.heap.push _).size; simp; omega) ?_
                           intro g6 cap6 w6 ho6 hgr6 _ _
                           have hb6 := (hbe5.alloc hbe5.size (.cells #[.string (t ++ y)] 9)).grown hgr6 (by have := hbe5.size; show _ ≤ (w5.heap.push _).size; simp; omega) (fun g hg => ho5.ge hg)))
                    go_roundw
                    case rel => exact ⟨e + 1, by omega, by go_num, by rw [hN.out]; simpa [OwnS] using ho6, by first | rfl | rw [hNx.out], hb6⟩
                    case measure => simp only [intOf]; omega
                  | false =>
                    rw [if_neg (by decide), List.append_nil] at hN
                    have hNx := hBn
                    go_wp2_with (first
                        | (go_at_call 42; refine (hlet.out _).mono ?_; rintro e' w4 ⟨rfl, rfl⟩)
                        | (go_at_call 41; refine (htw.out _).mono ?_; rintro e' w5 ⟨v5, rfl, hv5, hb5⟩
                           obtain ⟨A5, c5, rfl⟩ := hv5.form
                           rw [htnH.out]
                           have ho5 := ho.callee hb5
                           have hbe5 := hbe.trans (hb5.mono hbe.size)
                           clear hv5 hb5)
    )
                    go_roundw
                    case rel => exact ⟨e + 1, by omega, by go_num, by rw [hN.out]; exact ho5, by first | rfl | rw [hNx.out], hbe5⟩
                    case measure => simp only [intOf]; omega
                · have heki : ¬ (e : Int) < k := by omega
                  have hfull := Lib.hid (show P ++ clE t e = P ++ clE t k by rw [show e = k by omega])
                  rw [hfull.out, ← hNext.out] at ho
                  have hek2 : e = k := by omega
                  clear hek2
                  go_wp2_with (fail)
                  go_roundw
                  case rel => exact ⟨p + 1, by omega, by go_num, ho, by first | rfl | rw [if_neg (by omega)], hbe⟩
                  case measure => simp only [intOf]; omega
            · have hlt2i : ¬ (p : Int) < l.length := by omega
              rw [List.take_of_length_le (by omega), hT.out] at ho
              
              go_wp2_with (fail)
              go_roundw
              case rel => exact ⟨j + 1, i + 1, by omega, by omega, by go_num, by rw [show min (j + 1) m = j + 1 by omega]; exact ho.rebase hs0, by rw [if_neg (by omega)], hbe0.trans (hbe.mono hs0)⟩
              case measure => simp only [intOf]; omega
      · have hgi : ¬ (i : Int) < d := by omega
        by_cases hz : j = 0
        · have hzi : ((i : Int) == s.size) = true := by simp; omega
          rw [if_pos hz] at hn0
          rw [show min j m = j by omega] at ho1
          have hl4 := clX_len s k hk4 j
          have hp4 : 4 ^ j ≤ 4 ^ 6 := Nat.pow_le_pow_right (by omega) (by omega)
          have h46 : (4 : Nat) ^ 6 = 4096 := by decide
          have hsz := Lib.hid (show ∀ t ∈ clX s k j, t.size ≤ 26 by
            intro t ht
            obtain ⟨zz, h1, h2, _⟩ := clX_mem j t ht
            rw [← bts_len, h1, List.length_append, bts_len, h2]
            omega)
          have hT := Lib.hid (show (clX s k j).flatMap (fun t => clE t k) = clX s k (j + 1) from rfl)
          obtain ⟨l, hl⟩ : ∃ l, clX s k j = l := ⟨_, rfl⟩
          rw [hl] at hl4 hsz hT ho1
          have hls : l = [s] := by rw [← hl, hz]; rfl
          have hl1 := Lib.hid (show l.length = 1 by rw [hls]; rfl)
          have hlsH := Lib.hid hls
          clear hls
          have hll : l.length ≤ 4096 := by omega
          clear hl4 hp4 h46
          have ho1' := ho1
          obtain ⟨A1, c1, rfl, hrl⟩ := ho1.reads
          subst hn0
          go_wp2_with (fail)
          go_loopw [15, 17, 85] (fun o2 o3 v wr2 => ∃ p : Nat, p ≤ l.length ∧ v = .int .i64 p ∧ OwnS wr2 W1.heap.size o3 ((l.take p).flatMap fun t => clE t k) ∧ o2 = .string ⟨(nextP (bts s) (if p = 0 then 0 else k)).toArray⟩ ∧ Below W1.heap.size W1 wr2) (fun _ _ v _ => l.length - (intOf v).toNat)
          case atStart => exact ⟨0, by omega, rfl, OwnS.nil _ _, rfl, Below.refl _ _⟩
          case round =>
            obtain ⟨p, hp, rfl, ho, rfl, hbe⟩ := hrel
            by_cases hlt2 : p < l.length
            · have hlt2i : (p : Int) < l.length := by omega
              obtain ⟨ad, t, rfl, hadb, hcell, hlt'⟩ := (hrl.later (Nat.le_refl _) hbe).at_ hlt2
              have hts := hsz.out t (List.mem_of_getElem? hlt'.out)
              have hOL := clF_len (l.take p) (k := k) hk4
              rw [List.length_take, Nat.min_eq_left (by omega)] at hOL
              have hNext := Lib.hid (show (l.take (p + 1)).flatMap (fun t => clE t k) = ((l.take p).flatMap fun t => clE t k) ++ clE t k by rw [List.take_add_one, hlt'.out]; simp)
              have hp0 := Lib.hid (show p = 0 by have := hl1.out; omega)
              obtain rfl : t = s := by
                have := hlt'.out
                rw [hlsH.out, hp0.out] at this
                simpa using this.symm
              rw [if_pos hp0.out]
              obtain ⟨P, hP⟩ : ∃ P, ((l.take p).flatMap fun t => clE t k) = P := ⟨_, rfl⟩
              rw [hP] at ho hOL hNext
              have htsI : (t.size : Int) ≤ 8388608 := by omega
              clear hP
              go_wp2_with (fail)
              go_loopw [15, 17, 90] (fun o2 o3 v wr3 => ∃ e : Nat, e ≤ k ∧ v = .int .i64 e ∧ OwnS wr3 W1.heap.size o3 (P ++ clE t e) ∧ o2 = .string ⟨(nextP (bts t) e).toArray⟩ ∧ Below W1.heap.size W1 wr3) (fun _ _ v _ => k - (intOf v).toNat)
              case atStart => exact ⟨0, by omega, rfl, by simpa [clE, extB] using ho, rfl, hbe⟩
              case round =>
                clear ho hbe
                obtain ⟨e, he, rfl, ho, rfl, hbe⟩ := hrel
                by_cases hek : e < k
                · have heki : (e : Int) < k := by omega
                  have hsb := hbe.size
                  obtain ⟨y, hy⟩ : ∃ y : ByteArray, (⟨#[(97 + e).toUInt8]⟩ : ByteArray) = y := ⟨_, rfl⟩
                  have hyB := Lib.hid (show bts y = [(97 + e).toUInt8] by rw [← hy]; rfl)
                  have hys1 : y.size ≤ 1 := by rw [← hy]; exact Nat.le_refl 1
                  have hys : (y.size : Int) ≤ 8388608 := by omega
                  have hadd : ∀ w', (Op.stringOp .add t y).run Try.prog w' = .ok (.string (t ++ y)) w' := fun w' => run_string_add w' t y htsI hys
                  have hN := Lib.hid (show P ++ clE t (e + 1) = (P ++ clE t e) ++ (if cleanS (bts (t ++ y)) then [t ++ y] else []) by rw [clE_succ, hy, List.append_assoc])
                  have hlet := Lib.hid (fun w' => letter_any (k := e) (by omega) w')
                  rw [hy] at hlet
                  have hxs : (t ++ y).size ≤ 1000 := by
                    have : (t ++ y).size = t.size + y.size := by rw [← bts_len, bts_append, List.length_append, bts_len, bts_len]
                    omega
                  have htw := Lib.hid (fun w' => twice_any (t ++ y) hxs w')
                  have htl := tw_len (bts (t ++ y))
                  have hcj := clE_len t e
                  have hPL : (P ++ clE t e).length ≤ 1000000000 := by rw [List.length_append]; omega
                  obtain ⟨q, hq⟩ : ∃ q, cleanS (bts (t ++ y)) = q := ⟨_, rfl⟩
                  have hqc := Lib.hid (show cleanS (bts t ++ [(97 + e).toUInt8]) = q by rw [← hyB.out, ← bts_append, hq])
                  rw [hq] at hN htl
                  obtain ⟨T, hT2⟩ : ∃ T, twL (bts (t ++ y)) = T := ⟨_, rfl⟩
                  rw [hT2] at htl htw
                  obtain ⟨tn, htn⟩ : ∃ tn, T.length = tn := ⟨_, rfl⟩
                  rw [htn] at htl
                  have htli : ((tn : Int) == 0) = q := by rw [← htl, Bool.eq_iff_iff]; simp
                  have htnH := Lib.hid htn
                  obtain ⟨PK, hPK⟩ : ∃ PK, P ++ clE t e = PK := ⟨_, rfl⟩
                  rw [hPK] at hPL hN ho
                  obtain ⟨Bn, hBn0⟩ : ∃ Bn : ByteArray, (⟨(nextP (bts t) e).toArray⟩ : ByteArray) = Bn := ⟨_, rfl⟩
                  have hBn := Lib.hid hBn0
                  have hBnL := nextP_le (bts t) e
                  have hBnI : (Bn.size : Int) ≤ 8388608 := by rw [← hBn0]; show (((nextP (bts t) e).length : Nat) : Int) ≤ _; omega
                  rw [hBn0]
                  clear hq hy hPK hcj hT2 htl htn hBn0 hBnL
                  cases q with
                  | true =>
                    rw [if_pos rfl] at hN
                    have hNx := Lib.hid (show (⟨(nextP (bts t) (e + 1)).toArray⟩ : ByteArray) = Bn ++ y from bts_inj (by rw [bts_append, hyB.out, ← hBn.out]; show nextP (bts t) (e + 1) = nextP (bts t) e ++ _; exact nextP_clean hqc.out))
                    have hadd2 : ∀ w', (Op.stringOp .add Bn y).run Try.prog w' = .ok (.string (Bn ++ y)) w' := fun w' => run_string_add w' Bn y hBnI hys
                    go_wp2_with (first
                        | (go_at_call 42; refine (hlet.out _).mono ?_; rintro e' w4 ⟨rfl, rfl⟩)
                        | (go_at_call 41; refine (htw.out _).mono ?_; rintro e' w5 ⟨v5, rfl, hv5, hb5⟩
                           obtain ⟨A5, c5, rfl⟩ := hv5.form
                           rw [htnH.out]
                           have ho5 := ho.callee hb5
                           have hbe5 := hbe.trans (hb5.mono hbe.size)
                           clear hv5 hb5)
                        | (at_builtin
                           refine wpList_pushS rfl _ _ rfl rfl (ho5.none_ (World.grownBy_alloc w5 _ none)) w5.heap.size 1 (t ++ y) rfl (Blk.new w5 _ _) hPL (by have := hbe5.size; show _ ≤ (w5.heap.push _).size; simp; omega) ?_
                           intro g6 cap6 w6 ho6 hgr6 _ _
                           have hb6 := (hbe5.alloc hbe5.size (.cells #[.string (t ++ y)] 9)).grown hgr6 (by have := hbe5.size; show _ ≤ (w5.heap.push _).size; simp; omega) (fun g hg => ho5.ge hg)))
                    go_roundw
                    case rel => exact ⟨e + 1, by omega, by go_num, by rw [hN.out]; simpa [OwnS] using ho6, by first | rfl | rw [hNx.out], hb6⟩
                    case measure => simp only [intOf]; omega
                  | false =>
                    rw [if_neg (by decide), List.append_nil] at hN
                    have hNx := Lib.hid (show (⟨(nextP (bts t) (e + 1)).toArray⟩ : ByteArray) = Bn from by rw [nextP_unclean (by rw [hqc.out]; decide), hBn.out])
                    go_wp2_with (first
                        | (go_at_call 42; refine (hlet.out _).mono ?_; rintro e' w4 ⟨rfl, rfl⟩)
                        | (go_at_call 41; refine (htw.out _).mono ?_; rintro e' w5 ⟨v5, rfl, hv5, hb5⟩
                           obtain ⟨A5, c5, rfl⟩ := hv5.form
                           rw [htnH.out]
                           have ho5 := ho.callee hb5
                           have hbe5 := hbe.trans (hb5.mono hbe.size)
                           clear hv5 hb5)
    )
                    go_roundw
                    case rel => exact ⟨e + 1, by omega, by go_num, by rw [hN.out]; exact ho5, by first | rfl | rw [hNx.out], hbe5⟩
                    case measure => simp only [intOf]; omega
                · have heki : ¬ (e : Int) < k := by omega
                  have hfull := Lib.hid (show P ++ clE t e = P ++ clE t k by rw [show e = k by omega])
                  rw [hfull.out, ← hNext.out] at ho
                  have hek2 : e = k := by omega
                  rw [hek2]
                  go_wp2_with (fail)
                  go_roundw
                  case rel => exact ⟨p + 1, by omega, by go_num, ho, by first | rfl | rw [if_neg (by omega)], hbe⟩
                  case measure => simp only [intOf]; omega
            · have hlt2i : ¬ (p : Int) < l.length := by omega
              rw [List.take_of_length_le (by omega), hT.out] at ho
              rw [if_neg (by have := hl1.out; omega)]
              go_wp2_with (fail)
              go_roundw
              case rel => exact ⟨j + 1, i + 1, by omega, by omega, by go_num, by rw [show min (j + 1) m = j by omega, hl]; exact ho1'.callee hbe, by rw [if_neg (by omega)], hbe0.trans (hbe.mono hs0)⟩
              case measure => simp only [intOf]; omega
        · have hzi : ((i : Int) == s.size) = false := by simp; omega
          rw [if_neg hz] at hn0
          rw [show min j m = m by omega] at ho1
          subst hn0
          have hB1 := hb0.trans (hbe0.mono hb0.size)
          have hnx := Lib.hid (show ∀ w', Calls Try.prog 19 #[.string s, .int .i64 k] w' fun e w2 => e = .returned (.tuple #[.string ⟨(nextP (bts s) k).toArray⟩, .int .i64 0]) ∧ Below w'.heap.size w' w2 from fun w' => (Next_any s k w').mono (by
            rintro e w2 ⟨rfl, hb⟩
            have hs6 : (bts s).length ≤ 600 := by rw [bts_len]; omega
            exact ⟨by rw [next_at hk1 hk4 hletH.out hs6 hclH.out, beg_ok hk1 hk4 hletH.out hs6 hclH.out], hb⟩))
          obtain ⟨Nb, hNb⟩ : ∃ Nb : ByteArray, (⟨(nextP (bts s) k).toArray⟩ : ByteArray) = Nb := ⟨_, rfl⟩
          rw [hNb] at hnx ⊢
          have hl0 := fun w' => Longer_any s (k : Int) (d : Int) w'
          obtain ⟨L, hL⟩ : ∃ L, clX s k m = L := ⟨_, rfl⟩
          rw [hL] at ho1
          cases L with
          | nil =>
            obtain ⟨q1, q2⟩ := cont_none hk1 hk4 hletH.out hclH.out hd (by omega) hL
            rw [q1, q2] at hl0
            have hlg := Lib.hid (show ∀ w', Calls Try.prog 21 #[.string s, .int .i64 k, .int .i64 d] w' fun e w2 => e = .returned (.tuple #[.string ⟨#[]⟩, .int .i64 12]) ∧ Below w'.heap.size w' w2 from hl0)
            obtain ⟨A1, c1, rfl, hrl⟩ := ho1.reads
            rw [List.length_nil]
            clear q1 q2 hl0 hL hNb hrl ho1
            go_wp2_with (first
              | (go_at_call 19; (with_reducible refine (hnx.out _).mono ?_); rintro e w2 ⟨rfl, hb2⟩; replace hb2 := hB1.trans (hb2.mono hB1.size))
              | (go_at_call 21; (with_reducible refine (hlg.out _).mono ?_); rintro e w3 ⟨rfl, hb3⟩; replace hb3 := hb2.trans (hb3.mono hb2.size))
              | (go_at_call 12; (with_reducible refine (works_any _).mono ?_); rintro e w4 ⟨rfl, hb4⟩; replace hb4 := hb3.trans (hb4.mono hb3.size)))
            go_ret
            exact ⟨rfl, hb4⟩
          | cons t L1 =>
            obtain ⟨hts, hq⟩ := cont_some hk1 hk4 hletH.out hclH.out hd (by omega) hL
            have hqs := hq s.size (Nat.le_refl _) (by omega)
            have hl6 := Lib.hid (show ∀ i, s.size ≤ i → i ≤ d → ∀ w', Calls Try.prog 21 #[.string (t.extract 0 i), .int .i64 k, .int .i64 d] w' fun e w2 => e = .returned (.tuple #[.string t, .int .i64 0]) ∧ Below w'.heap.size w' w2 from fun i h1 h2 w' => (Longer_any (t.extract 0 i) (k : Int) (d : Int) w').mono (by
              rintro e w2 ⟨rfl, hb⟩
              have := hq i h1 h2
              rw [← bts_take] at this
              exact ⟨by rw [this.1, this.2]; rfl, hb⟩))
            have hpre : (bts t).take s.size = bts s := by
              obtain ⟨z, h1, _⟩ := clX_mem m t (by rw [hL]; simp)
              rw [h1, ← bts_len s, List.take_left']
              rfl
            rw [hpre] at hqs
            rw [hqs.1, hqs.2] at hl0
            have hlg := Lib.hid (show ∀ w', Calls Try.prog 21 #[.string s, .int .i64 k, .int .i64 d] w' fun e w2 => e = .returned (.tuple #[.string t, .int .i64 0]) ∧ Below w'.heap.size w' w2 from hl0)
            obtain ⟨g, c1, rfl, hgW, hcell⟩ := ho1.head
            obtain ⟨N, hN⟩ : ∃ N, (t :: L1).length = N := ⟨_, rfl⟩
            have hNp : 0 < N := by rw [← hN]; simp
            have hN0 : ((N : Int) == 0) = false := by simp; omega
            have hNi : (0 : Int) < N := by omega
            rw [hN]
            have htsi : (d : Int) ≤ t.size := by omega
            clear hq hqs hpre hl0 hL hNb ho1 hN hts hNp
            go_wp2_with (first
              | (go_at_call 19; (with_reducible refine (hnx.out _).mono ?_); rintro e w2 ⟨rfl, hb2⟩
                 have hz2 := hb2
                 replace hb2 := hB1.trans (hb2.mono hB1.size))
              | (go_at_call 21; (with_reducible refine (hlg.out _).mono ?_); rintro e w3 ⟨rfl, hb3⟩
                 have hz3 := hz2.trans (hb3.mono hz2.size)
                 have hcell3 := (hz3.cell (p := ⟨g, 0, none⟩) hgW).trans hcell
                 replace hb3 := hb2.trans (hb3.mono hb2.size)))
            clear hb2 hz2 hz3 hcell hcell3 hB1
            go_loopw [26] (fun v wr => ∃ i : Nat, s.size ≤ i ∧ i ≤ d + 1 ∧ v = .int .i64 i ∧ Below w.heap.size w wr) (fun v _ => d + 1 - (intOf v).toNat)
            case atStart => exact ⟨s.size, Nat.le_refl _, by omega, rfl, hb3⟩
            case round =>
              clear hb3
              obtain ⟨i, hi1, hi2, rfl, hb3⟩ := hrel
              by_cases hid : i ≤ d
              · have hidi : (i : Int) ≤ d := by omega
                have hiti : (i : Int) ≤ t.size := by omega
                have hli := Lib.hid (hl6.out i hi1 hid)
                go_wp2_with (first
                  | (go_at_call 21; (with_reducible refine (hli.out _).mono ?_); rintro e w4 ⟨rfl, hb4⟩
                     replace hb4 := hb3.trans (hb4.mono hb3.size)))
                go_roundw
                case rel => exact ⟨i + 1, by omega, by omega, by go_num, hb4⟩
                case measure => simp only [intOf]; omega
              · have hidi : ¬ (i : Int) ≤ d := by omega
                go_wp2_with (first
                  | (go_at_call 12; (with_reducible refine (works_any _).mono ?_); rintro e w4 ⟨rfl, hb4⟩; replace hb4 := hb3.trans (hb4.mono hb3.size)))
                go_ret
                exact ⟨rfl, hb4⟩
theorem continued_law (A : Option Addr) (n c : Nat) (bs : List Nat) (x1 x2 : Int) (w : World) (hr : Reads w w.heap.size 1 A n (bs.map fun b : Nat => Value.int .u8 (b : Int))) (hn : n ≤ maxLen) (hb8 : ∀ b ∈ bs, b < 256) (hb1 : 0 ≤ x1 ∧ x1 ≤ 255) (hb2 : 0 ≤ x2 ∧ x2 ≤ 255) :
    Calls Try.prog 8 #[.slice A n c, .int .u8 x1, .int .u8 x2] w fun e w' => e = .returned (.bool true) ∧ Below w.heap.size w w' := by
  obtain ⟨a, rfl⟩ : ∃ a : Nat, x1 = a := ⟨x1.toNat, by omega⟩
  obtain ⟨b, rfl⟩ : ∃ b : Nat, x2 = b := ⟨x2.toNat, by omega⟩
  obtain ⟨ha1, ha2⟩ := mod_facts a 3
  obtain ⟨hc1, hc2⟩ := mod_facts b 7
  exact cont_at A n c bs a b (a % 3) (1 + a % 3) (b % 7) w hr hn hb8 ha2 ha1 (by omega) (by omega) (by omega) hb1.2 hc2 hc1 (by omega) hb2.2
end Go.Proofs.Ytdaaiockkbolbaa
