/- The law ClaspLine, walked: it returns true. -/
import Derived.Test.YtjhcemhnnkcjaaaDoorLawB
import Derived.ArgAppend
import Derived.Deep.LoopGhost
namespace Go.Proofs.YtjhcemhnnkcjaaaDoor
open Go.RowKit
open Go.RowKit
theorem infoU32 : (Tryd.prog.info? 47).map (fun i => (i.zero, i.size, i.bytes)) = some (some (.int .u32 0), 1, 4) := by kernel_rfl
def u32s (xs : List Nat) : List Value := xs.map fun x : Nat => Value.int .u32 (x : Int)
/-- a slice of uint32's that lies in a block of the call's own, wherever it begins there -/
def Que (w : World) (base : Nat) (v : Value) (xs : List Nat) : Prop :=
  ∃ A cap, v = .slice A xs.length cap ∧ xs.length ≤ cap ∧ cap ≤ maxLen ∧ (A = none → cap = 0) ∧
    (0 < cap → ∃ g off cs, A = some ⟨g, off, none⟩ ∧ base ≤ g ∧ Blk w g 47 cs ∧ off + cap = cs.size ∧ ∀ (j x : Nat), xs[j]? = some x → cs[off + j]? = some (.int .u32 (x : Int)))
section
variable {w w' : World} {base : Nat} {v : Value} {xs : List Nat}
theorem Que.callee (h : Que w base v xs) (hb : Below w.heap.size w w') : Que w' base v xs := by
  obtain ⟨A, cap, h1, h2, h3, h4, h5⟩ := h
  refine ⟨A, cap, h1, h2, h3, h4, fun hc => ?_⟩
  obtain ⟨g, off, cs, e1, e2, e3, e4, e5⟩ := h5 hc
  exact ⟨g, off, cs, e1, e2, e3.callee hb, e4, e5⟩
theorem Que.set_ (h : Que w base v xs) {p : Addr} (hp : p.block < base) (u : Value) : Que (w.setCell p u) base v xs := by
  obtain ⟨A, cap, h1, h2, h3, h4, h5⟩ := h
  refine ⟨A, cap, h1, h2, h3, h4, fun hc => ?_⟩
  obtain ⟨g, off, cs, e1, e2, e3, e4, e5⟩ := h5 hc
  exact ⟨g, off, cs, e1, e2, e3.far (by omega) u, e4, e5⟩
theorem Que.none_ (h : Que w base v xs) (hb : w.grownBy w' none) : Que w' base v xs := by
  obtain ⟨A, cap, h1, h2, h3, h4, h5⟩ := h
  refine ⟨A, cap, h1, h2, h3, h4, fun hc => ?_⟩
  obtain ⟨g, off, cs, e1, e2, e3, e4, e5⟩ := h5 hc
  exact ⟨g, off, cs, e1, e2, e3.none_ hb, e4, e5⟩
theorem Que.start {g x : Nat} (h : Blk w g 47 #[.int .u32 (x : Int)]) (hb : base ≤ g) : Que w base (.slice (some ⟨g, 0, none⟩) 1 1) [x] := by
  refine ⟨_, 1, rfl, by simp, by decide, by simp, fun _ => ⟨g, 0, _, rfl, hb, h, rfl, fun j y hj => ?_⟩⟩
  cases j with
  | zero => simp at hj; subst hj; rfl
  | succ j => simp at hj
theorem Que.head {x : Nat} {r : List Nat} (h : Que w base v (x :: r)) : ∃ g off cap, v = .slice (some ⟨g, off, none⟩) (r.length + 1) cap ∧ r.length + 1 ≤ cap ∧ cap ≤ maxLen ∧ w.cell? ⟨g, off, none⟩ = some (.int .u32 (x : Int)) ∧
    Que w base (.slice (if cap = 1 then some ⟨g, off, none⟩ else some ⟨g, off + 1, none⟩) r.length (cap - 1)) r := by
  obtain ⟨A, cap, h1, h2, h3, h4, h5⟩ := h
  simp only [List.length_cons] at h1 h2
  obtain ⟨g, off, cs, rfl, e2, e3, e4, e5⟩ := h5 (by omega)
  refine ⟨g, off, cap, h1, h2, h3, by rw [e3.cell]; exact e5 0 x rfl, _, cap - 1, rfl, by omega, by omega, fun h => by (split at h <;> cases h), fun hc => ?_⟩
  rw [if_neg (by omega)]
  refine ⟨g, off + 1, cs, rfl, e2, e3, by omega, fun j y hj => ?_⟩
  rw [show off + 1 + j = off + (j + 1) by omega]
  exact e5 (j + 1) y hj
theorem wpList_qpush {ops : Array Oper} {rest : List Oper} {o : Oper} {a : Act} {Q : Exit → Act → World → Prop} (hgd : o.guard = none) (s x : Operand)
    (ho : o.op = .call { callee := .builtin .append, args := #[s, x], argTypes := #[94, 94] }) (hs : a.eval s = v) (hq : Que w base v xs)
    (B c y : Nat) (hx : a.eval x = .slice (some ⟨B, 0, none⟩) 1 c) (hB : Blk w B 47 #[.int .u32 (y : Int)]) (hlen : xs.length ≤ 1000000) (hbase : base ≤ w.heap.size)
    (h : ∀ v' w', Que w' base v' (xs ++ [y]) → Below base w w' → wpList Tryd.prog ops Q rest (a.put o.dst v') w') : wpList Tryd.prog ops Q (o :: rest) a w := by
  obtain ⟨i0, hi0, hz0, hz1, hz2⟩ := info_parts infoU32
  obtain ⟨A, cap, rfl, h2, h3, h4, h5⟩ := hq
  have hnews : ∀ j u, [Value.int .u32 (y : Int)][j]? = some u → w.cell? ((⟨B, 0, none⟩ : Addr).add j) = some u := fun j u hj => by
    cases j with
    | zero => simp at hj; subst hj; rw [show (⟨B, 0, none⟩ : Addr).add 0 = ⟨B, 0, none⟩ from rfl, hB.cell]; rfl
    | succ j => simp at hj
  have hone : ∀ u ∈ [Value.int .u32 (y : Int)], u.oneCell' = true := by simp [Value.oneCell']
  have hgrow : ∀ (v' : Value) (w' : World), w'.ownsRow w.heap.size 47 1 v' (xs.length + 1) (u32s xs ++ [Value.int .u32 (y : Int)]) → w.grownBy w' none → wpList Tryd.prog ops Q rest (a.put o.dst v') w' := by
    intro v' w' hown hg
    refine h v' w' ?_ ((Below.refl base w).grown hg hbase (fun k e => by cases e))
    rcases hown.2 with ⟨_, h0⟩ | ⟨g, cap', cur, rfl, hb, hcur, hle, hmax, hsz, htk⟩
    · omega
    · refine ⟨_, cap', by simp, by simpa using hle, hmax, by simp, fun hc => ⟨g, 0, cur, rfl, by omega, hcur, by omega, fun j u hj => ?_⟩⟩
      have hjl : j < xs.length + 1 := by
        have := (List.getElem?_eq_some_iff.1 hj).1
        simpa using this
      have e1 : (u32s xs ++ [Value.int .u32 (y : Int)]) = u32s (xs ++ [y]) := by simp [u32s]
      rw [e1] at htk
      have e2 := congrArg (fun l : List Value => l[j]?) htk
      simp only [u32s, List.getElem?_map, hj, Option.map_some, List.getElem?_take] at e2
      rw [if_pos (by omega)] at e2
      simpa using e2
  by_cases hc : 0 < cap
  · obtain ⟨g, off, cs, rfl, e2, e3, e4, e5⟩ := h5 hc
    have holds : ∀ j u, (u32s xs)[j]? = some u → w.cell? ⟨g, off + j, none⟩ = some u := fun j u hj => by
      rw [u32s, List.getElem?_map] at hj
      obtain ⟨x, hx1, rfl⟩ := Option.map_eq_some_iff.1 hj
      rw [e3.cell]; exact e5 j x hx1
    refine wpList_append_arg w hgd s x 94 ho 47 i0 (.int .u32 0) 1 4 Tryd.underlying94 hi0 hz0 hz1 hz2 rfl (by decide) g off xs.length cap (u32s xs) hs (by simp [u32s]) holds
      ⟨B, 0, none⟩ 1 c [.int .u32 (y : Int)] hx rfl hnews hone ?_ (by simp only [maxLen]; omega) (by omega) ?_ (fun _ => hgrow)
    · intro hroom j hj
      obtain rfl : j = 0 := by simpa using hj
      refine ⟨?_, e3.frozen _⟩
      rw [e3.cell]
      simp only [Nat.mul_one, Nat.add_zero]
      rw [Array.getElem?_eq_getElem (by omega)]; rfl
    · intro hroom
      have e0 : w.setCells g (off + xs.length * 1) [.int .u32 (y : Int)] = w.setCell ⟨g, off + xs.length, none⟩ (.int .u32 (y : Int)) := by simp [World.setCells]
      rw [e0]
      refine h _ _ ⟨_, cap, by simp, by simpa using hroom, h3, by simp, fun _ => ⟨g, off, _, rfl, e2, e3.set_ _ _, by simpa using e4, fun j u hj => ?_⟩⟩ ((Below.refl _ _).setCell e2 _)
      rw [Array.getElem?_setIfInBounds]
      by_cases hjl : j = xs.length
      · subst hjl
        rw [if_pos rfl, if_pos (by omega)]
        simp at hj; subst hj; rfl
      · have : j < xs.length := by
          have := (List.getElem?_eq_some_iff.1 hj).1
          simp at this; omega
        rw [if_neg (by omega), e5 j u (by rw [← hj, List.getElem?_append_left this])]
  · obtain rfl : cap = 0 := by omega
    have hx0 : xs = [] := List.eq_nil_of_length_eq_zero (by omega)
    subst hx0
    refine wpList_append_grows w hgd s x 94 ho 47 i0 (.int .u32 0) 1 4 Tryd.underlying94 hi0 hz0 hz1 hz2 rfl (by decide) A 0 0 [] hs (fun _ => ⟨rfl, rfl⟩) rfl (fun _ _ j u hj => by simp at hj)
      ⟨B, 0, none⟩ 1 c [.int .u32 (y : Int)] hx rfl hnews hone (by omega) (by simp only [maxLen]; omega) (by omega) ?_
    intro v' w' r1 r2
    exact hgrow v' w' (by simpa [u32s] using r1) r2
end
/-- the first k of M cells turned to -1 -/
def minusM (M k : Nat) : List Int := List.replicate k (-1) ++ List.replicate (M - k) 0
theorem minusM_zero (M : Nat) : minusM M 0 = List.replicate M 0 := by simp [minusM]
theorem minusM_end (M : Nat) : minusM M M = List.replicate M (-1) := by simp [minusM]
theorem minusM_at {M k : Nat} (h : k < M) : (minusM M k)[k]? = some 0 := by
  unfold minusM
  rw [List.getElem?_append_right (by simp), List.length_replicate, Nat.sub_self, List.getElem?_replicate, if_pos (by omega)]
theorem minusM_set {M k : Nat} (h : k < M) : (minusM M k).set k (-1) = minusM M (k + 1) := by
  unfold minusM
  rw [List.set_append_right _ _ (by simp), List.length_replicate, Nat.sub_self, show M - k = (M - (k + 1)) + 1 by omega, List.replicate_succ, List.set_cons_zero, List.replicate_succ' (n := k)]
  simp
theorem negs_minus (M : Nat) : negs (List.replicate M (-1)) = M := by
  unfold negs
  induction M with
  | zero => rfl
  | succ M ih => rw [List.replicate_succ, List.countP_cons, ih]; simp
set_option maxRecDepth 100000 in
set_option maxHeartbeats 4000000 in
theorem reached_any (n a : Nat) (hn1 : 1 ≤ n) (hn : n ≤ 10) (ha : a < 2 ^ n) (w : World) :
    Calls Tryd.prog 39 #[.int .i64 n, .int .u32 a] w fun e w' => ∃ A c, e = .returned (.slice A (2 ^ n) c) ∧ RInts w' w'.heap.size A (2 ^ n) ((List.range (2 ^ n)).map fun x => (farB n a x : Int)) ∧ Below w.heap.size w w' := by
  have h10 : 2 ^ n ≤ 2 ^ 10 := Nat.pow_le_pow_right (by omega) hn
  have e10 : (2 : Nat) ^ 10 = 1024 := rfl
  obtain ⟨M, hM⟩ : ∃ M, 2 ^ n = M := ⟨_, rfl⟩
  have hV1 : Value.int .i64 (wrap64 (2 ^ n)) = Value.int .i64 (M : Int) := by rw [wrap64_pow (by omega), hM]
  have hM10 : M ≤ 1024 := by omega
  have haM : a < M := by omega
  have ha32 : a < 4294967296 := by omega
  have hMH := Lib.hid hM
  have hAH := Lib.hid ha
  rw [hM]
  clear h10 e10 hM ha
  go_enter Tryd.func39, Tryd.ntmps39
  go_wp2_with (first
    | (with_reducible show wpList _ _ _ (⟨some 13, .makeSlice _ _ _, _, _, _, _⟩ :: _) _ _
       refine wpList_make_ints rfl _ _ rfl M hV1 hV1 (by omega) ?_
       intro wb gt hB hg hge
       have hb0 := below_none (Below.refl w.heap.size w) hg (Nat.le_refl _)))
  clear hg hV1
  rw [← minusM_zero] at hB
  go_loopw [16] (fun i wr => ∃ k : Nat, k ≤ M ∧ i = .int .i64 k ∧ Blk wr gt 3 (intArr (minusM M k)) ∧ Below w.heap.size w wr) (fun i _ => M - (intOf i).toNat)
  case atStart => exact ⟨0, by omega, rfl, hB, hb0⟩
  case round =>
    clear hB hb0
    obtain ⟨k, hk, rfl, hB, hbe⟩ := hrel
    by_cases hlt : k < M
    · have hc1 : wr.cell? ⟨gt, k, none⟩ = some (.int .i64 0) := by rw [hB.cell, intArr_at, minusM_at hlt]; rfl
      have hfz := hB.frozen k
      replace hB := hB.set_ k (.int .i64 (-1))
      rw [intArr_set, minusM_set hlt] at hB
      replace hbe := hbe.setCell hge (.int .i64 (-1)) (p := ⟨gt, k, none⟩)
      go_wp2_with (fail)
      go_roundw
      case rel => exact ⟨k + 1, by omega, by go_num, hB, hbe⟩
      case measure => simp [intOf]; omega
    · obtain rfl : k = M := by omega
      rw [minusM_end] at hB
      have hc1 : wr.cell? ⟨gt, a, none⟩ = some (.int .i64 (-1)) := by rw [hB.cell, intArr_at, List.getElem?_replicate, if_pos haM]; rfl
      have hfz := hB.frozen a
      replace hB := hB.set_ a (.int .i64 0)
      rw [intArr_set] at hB
      replace hbe := hbe.setCell hge (.int .i64 0) (p := ⟨gt, a, none⟩)
      have hbf := bfs_start hAH.out
      rw [hMH.out] at hbf
      replace hbf := Lib.hid hbf
      have hng : negs ((List.replicate k (-1)).set a 0) + 1 = k := by
        rw [negs_set (v := -1) (by rw [List.getElem?_replicate, if_pos haM]) (by decide) (by decide), negs_minus]
      go_wp2_with (fail)
      have hqb : Blk ((wr.setCell ⟨gt, a, none⟩ (.int .i64 0)).alloc (.cells #[.int .u32 (a : Int)] 47)) wr.heap.size 47 #[.int .u32 (a : Int)] := by
        have := Blk.new (wr.setCell ⟨gt, a, none⟩ (.int .i64 0)) 47 #[.int .u32 (a : Int)]
        simpa using this
      have hgl : gt + 1 ≤ wr.heap.size := by have := hB.lt; simp at this; omega
      have hq := Que.start (base := gt + 1) hqb hgl
      replace hB := hB.alloc (.cells #[.int .u32 (a : Int)] 47)
      replace hbe := hbe.alloc hbe.size (.cells #[.int .u32 (a : Int)] 47)
      clear hqb hgl hc1 hfz
      go_loopg [7] k (fun q v wr => ∃ (L : Nat) (q1 q2 : List Nat) (out : List Int), Hid (Bfs n a L q1 q2 out (pendH n q1)) ∧ Hid (negs out + (q1 ++ q2).length = q) ∧ q ≤ 1024 ∧
        Que wr (gt + 1) v (q1 ++ q2) ∧ Blk wr gt 3 (intArr out) ∧ Below w.heap.size w wr)
      case atStart => exact ⟨0, [a], [], _, hbf, Lib.hid (by simpa using hng), hM10, hq, hB, hbe⟩
      case round =>
        clear hB hbe hq hbf hng
        obtain ⟨L, q1, q2, out, hbf, hng, hqM, hq, hB, hbe⟩ := hrel
        cases hqq : q1 ++ q2 with
        | nil =>
          obtain ⟨rfl, rfl⟩ := List.append_eq_nil_iff.1 hqq
          have hend := bfs_end hbf.out
          have hlen := hbf.out.len
          rw [hMH.out] at hend hlen
          rw [hqq] at hq
          obtain ⟨A, cap, rfl, _⟩ := hq
          replace hend := Lib.hid hend
          replace hlen := Lib.hid hlen
          simp only [List.length_nil]
          go_wp2_with (fail)
          go_ret
          exact ⟨_, _, rfl, by rw [← hend.out]; exact RInts.of_blk hB hlen.out, hbe⟩
        | cons t r =>
          obtain ⟨L, p1, p2, rfl, hbf2⟩ := bfs_head hbf.out hqq
          obtain ⟨ht, htL, hot, hbf3⟩ := bfs_pop hbf2
          rw [hqq] at hq hng
          replace hbf3 := Lib.hid hbf3
          clear hbf hbf2 hqq
          have hL10 : L ≤ 1024 := by
            have h1 := numB_lt n t
            have h2 := numB_lt n a
            rw [hMH.out] at h1 h2
            unfold farB distS at htL
            omega
          have htM := ht
          rw [hMH.out] at htM
          have ht32 : t < 4294967296 := by omega
          replace ht := Lib.hid ht
          replace htL := Lib.hid htL
          clear hot
          have hq0 := hq
          obtain ⟨g, off, cap, rfl, hc1, hc2, hcell, _⟩ := hq.head
          obtain ⟨lq, hlq⟩ : ∃ lq, (p1 ++ p2).length + 1 = lq := ⟨_, rfl⟩
          rw [hlq] at hc1 hq0 ⊢
          have hlq0 : (0 : Int) < lq := by omega
          clear hlq hq
          have hlqd : decide (0 < lq) = true := decide_eq_true (by omega)
          go_wp2_with (fail)
          clear hlqd
          go_loopw [37, 7] (fun i v wr => ∃ (k : Nat) (q2 : List Nat) (out : List Int), k ≤ n ∧ i = .int .i64 k ∧ Hid (Bfs n a L p1 q2 out (pendK n p1 t k)) ∧ Hid (negs out + (t :: (p1 ++ q2)).length = gk) ∧
            Que wr (gt + 1) v (t :: (p1 ++ q2)) ∧ Blk wr gt 3 (intArr out) ∧ Below w.heap.size w wr) (fun i _ _ => n - (intOf i).toNat)
          case atStart => exact ⟨0, p2, out, by omega, rfl, hbf3, hng, hq0, hB, hbe⟩
          case round =>
            clear hB hbe hq0 hbf3 hng hcell hc1 hc2
            obtain ⟨k, q2, out, hk, rfl, hbf, hng, hq, hB, hbe⟩ := hrel
            by_cases hkn : k < n
            · have hx := xor_pow_lt ht.out hkn
              rw [hMH.out] at hx
              have hxg := xor_go t k ht32 (by omega)
              have hlen := hbf.out.len
              rw [hMH.out] at hlen
              have htt := hbf.out.outs t ht.out
              rw [htL.out, if_pos (Or.inl (Nat.le_refl _))] at htt
              obtain ⟨v, hv⟩ : ∃ v, out[t ^^^ 2 ^ k]? = some v := ⟨_, List.getElem?_eq_getElem (by omega)⟩
              have hx32 : t ^^^ 2 ^ k < 4294967296 := by omega
              replace hng := Lib.hid hng.out
              have hvH := Lib.hid hv
              have httH := Lib.hid htt
              clear hv htt hlen
              cases hf : freeB t k with
              | false =>
                have hbn := Lib.hid (bfs_shut hbf.out hf)
                replace hf := Lib.hid hf
                go_wp2_with (first
                  | (go_at_call 42
                     refine (free_any t k (by omega) ht32 _ _ rfl rfl _).mono ?_
                     rintro e w2 ⟨rfl, hb2⟩
                     rw [hf.out]
                     have hB2 := hB.callee hb2
                     have hq2 := hq.callee hb2
                     have hbe2 := hbe.trans (hb2.mono hbe.size)))
                go_roundw
                case rel => exact ⟨k + 1, q2, out, by omega, by go_num, hbn, hng, hq2, hB2, hbe2⟩
                case measure => simp [intOf]; omega
              | true =>
                by_cases hv0 : v < 0
                · have hbn := Lib.hid (bfs_new hbf.out ht.out htL.out hkn hf hvH.out hv0)
                  have hns := negs_set (u := (L : Int) + 1) hvH.out hv0 (by omega)
                  have hngn : Hid (negs (out.set (t ^^^ 2 ^ k) ((L : Int) + 1)) + (t :: (p1 ++ (q2 ++ [t ^^^ 2 ^ k]))).length = gk) := Lib.hid (by
                    have := hng.out
                    simp only [List.length_cons, List.length_append, List.length_nil] at this ⊢
                    omega)
                  have hlq : (t :: (p1 ++ q2)).length ≤ 1000000 := by have := hng.out; omega
                  replace hf := Lib.hid hf
                  clear hns
                  go_wp2_with (first
                    | (go_at_call 42
                       refine (free_any t k (by omega) ht32 _ _ rfl rfl _).mono ?_
                       rintro e w2 ⟨rfl, hb2⟩
                       rw [hf.out]
                       have hB2 := hB.callee hb2
                       have hq2 := hq.callee hb2
                       have hbe2 := hbe.trans (hb2.mono hbe.size)
                       have hc1 : w2.cell? ⟨gt, t ^^^ 2 ^ k, none⟩ = some (.int .i64 v) := by rw [hB2.cell, intArr_at, hvH.out]; rfl
                       have hc2 : w2.cell? ⟨gt, t, none⟩ = some (.int .i64 (L : Int)) := by rw [hB2.cell, intArr_at, httH.out]; rfl
                       have hfz := hB2.frozen (t ^^^ 2 ^ k)
                       have hB3 := hB2.set_ (t ^^^ 2 ^ k) (.int .i64 ((L : Int) + 1))
                       rw [intArr_set] at hB3
                       have hq3 := hq2.set_ (p := ⟨gt, t ^^^ 2 ^ k, none⟩) (by simp) (.int .i64 ((L : Int) + 1))
                       have hbe3 := hbe2.setCell hge (.int .i64 ((L : Int) + 1)) (p := ⟨gt, t ^^^ 2 ^ k, none⟩)
                       have hBq : Blk ((w2.setCell ⟨gt, t ^^^ 2 ^ k, none⟩ (.int .i64 ((L : Int) + 1))).alloc (.cells #[.int .u32 ((t ^^^ 2 ^ k : Nat) : Int)] 47)) w2.heap.size 47 #[.int .u32 ((t ^^^ 2 ^ k : Nat) : Int)] := by
                         have := Blk.new (w2.setCell ⟨gt, t ^^^ 2 ^ k, none⟩ (.int .i64 ((L : Int) + 1))) 47 #[.int .u32 ((t ^^^ 2 ^ k : Nat) : Int)]
                         simpa using this)
                    | (at_builtin
                       refine wpList_qpush rfl _ _ rfl rfl (hq3.none_ (World.grownBy_alloc _ (.cells #[.int .u32 ((t ^^^ 2 ^ k : Nat) : Int)] 47) none)) w2.heap.size 1 (t ^^^ 2 ^ k) rfl hBq hlq (by simp; have := hB2.lt; omega) ?_
                       intro v5 w5 hq5 hb5
                       have hB5 := (hB3.alloc (.cells #[.int .u32 ((t ^^^ 2 ^ k : Nat) : Int)] 47)).below hb5 (by omega)
                       have hbe5 := (hbe3.alloc hbe3.size (.cells #[.int .u32 ((t ^^^ 2 ^ k : Nat) : Int)] 47)).trans (hb5.mono (by omega))))
                  go_roundw
                  case rel => exact ⟨k + 1, q2 ++ [t ^^^ 2 ^ k], _, by omega, by go_num, hbn, hngn, by simpa using hq5, hB5, hbe5⟩
                  case measure => simp [intOf]; omega
                · have hbn := Lib.hid (bfs_seen hbf.out hvH.out (by omega))
                  replace hf := Lib.hid hf
                  go_wp2_with (first
                    | (go_at_call 42
                       refine (free_any t k (by omega) ht32 _ _ rfl rfl _).mono ?_
                       rintro e w2 ⟨rfl, hb2⟩
                       rw [hf.out]
                       have hB2 := hB.callee hb2
                       have hq2 := hq.callee hb2
                       have hbe2 := hbe.trans (hb2.mono hbe.size)
                       have hc1 : w2.cell? ⟨gt, t ^^^ 2 ^ k, none⟩ = some (.int .i64 v) := by rw [hB2.cell, intArr_at, hvH.out]; rfl))
                  go_roundw
                  case rel => exact ⟨k + 1, q2, out, by omega, by go_num, hbn, hng, hq2, hB2, hbe2⟩
                  case measure => simp [intOf]; omega
            · obtain rfl : k = n := by omega
              have hbn := Lib.hid (bfs_done hbf.out)
              obtain ⟨g, off, cap, rfl, hc1, hc2, hcell, hqn⟩ := hq.head
              replace hng := Lib.hid (show negs out + (p1 ++ q2).length < gk by have := hng.out; simp only [List.length_cons] at this; omega)
              have hgk : negs out + (p1 ++ q2).length ≤ 1024 := by have := hng.out; omega
              by_cases hcap : cap = 1
              · subst hcap
                rw [if_pos rfl] at hqn
                go_wp2_with (fail)
                go_roundg (negs out + (p1 ++ q2).length)
                case rel => exact ⟨L, p1, q2, out, hbn, Lib.hid rfl, hgk, by simpa using hqn, hB, hbe⟩
                case measure => exact hng.out
              · rw [if_neg hcap] at hqn
                go_wp2_with (fail)
                go_roundg (negs out + (p1 ++ q2).length)
                case rel => exact ⟨L, p1, q2, out, hbn, Lib.hid rfl, hgk, by simpa using hqn, hB, hbe⟩
                case measure => exact hng.out
theorem tz_parts {p : Nat} (h : 0 < p) : tz (p + 1) ≠ tz p := by
  rcases Nat.mod_two_eq_zero_or_one p with e | e
  · rw [tz_odd (show (p + 1) % 2 = 1 by omega), tz_even h e]; omega
  · rw [tz_odd e, tz_even (by omega) (show (p + 1) % 2 = 0 by omega)]; omega
/-- the sum of all neighbours' numbers, less the number, over the first k rings -/
def nearF (M p k : Nat) : Int := (if p + 1 < M ∧ tz (p + 1) < k then 1 else 0) - (if 0 < p ∧ tz p < k then 1 else 0)
theorem nearF_zero (M p : Nat) : nearF M p 0 = 0 := by simp [nearF]
theorem nearF_le (M p k : Nat) : -1 ≤ nearF M p k ∧ nearF M p k ≤ 1 := by unfold nearF; split <;> split <;> omega
theorem nearF_up {M p k : Nat} (h : p + 1 < M) (hk : k = tz (p + 1)) : nearF M p (k + 1) = nearF M p k + 1 := by
  subst hk
  unfold nearF
  rw [if_pos ⟨h, by omega⟩, if_neg (show ¬ (p + 1 < M ∧ tz (p + 1) < tz (p + 1)) by omega)]
  by_cases h0 : 0 < p
  · have := tz_parts h0
    by_cases h1 : tz p < tz (p + 1)
    · rw [if_pos ⟨h0, by omega⟩, if_pos ⟨h0, h1⟩]; omega
    · rw [if_neg (by omega), if_neg (by omega)]; omega
  · rw [if_neg (by omega), if_neg (by omega)]; omega
theorem nearF_down {M p k : Nat} (h : 0 < p) (hk : k = tz p) : nearF M p (k + 1) = nearF M p k - 1 := by
  subst hk
  unfold nearF
  rw [if_pos (show 0 < p ∧ tz p < tz p + 1 by omega), if_neg (show ¬ (0 < p ∧ tz p < tz p) by omega)]
  have := tz_parts h
  by_cases h1 : p + 1 < M ∧ tz (p + 1) < tz p
  · rw [if_pos (by omega), if_pos h1]; omega
  · rw [if_neg (by omega), if_neg h1]; omega
theorem nearF_no {n a k : Nat} (hf : freeB a k = false) : nearF (2 ^ n) (numB n a) (k + 1) = nearF (2 ^ n) (numB n a) k := by
  unfold nearF
  have h1 : (numB n a + 1 < 2 ^ n ∧ tz (numB n a + 1) < k + 1) ↔ (numB n a + 1 < 2 ^ n ∧ tz (numB n a + 1) < k) := by
    refine ⟨fun h => ⟨h.1, ?_⟩, fun h => ⟨h.1, by omega⟩⟩
    have h2 := (numB_up h.1).2.1
    have h3 : tz (numB n a + 1) ≠ k := by intro e; rw [e, hf] at h2; cases h2
    omega
  have h2 : (0 < numB n a ∧ tz (numB n a) < k + 1) ↔ (0 < numB n a ∧ tz (numB n a) < k) := by
    refine ⟨fun h => ⟨h.1, ?_⟩, fun h => ⟨h.1, by omega⟩⟩
    have h2 := (numB_down h.1).2.1
    have h3 : tz (numB n a) ≠ k := by intro e; rw [e, hf] at h2; cases h2
    omega
  simp only [h1, h2]
theorem nearF_end (n a : Nat) : nearF (2 ^ n) (numB n a) n = (if numB n a + 1 < 2 ^ n then 1 else 0) - (if 0 < numB n a then 1 else 0) := by
  unfold nearF
  have h1 : (numB n a + 1 < 2 ^ n ∧ tz (numB n a + 1) < n) ↔ numB n a + 1 < 2 ^ n := ⟨fun h => h.1, fun h => ⟨h, (numB_up h).1⟩⟩
  have h2 : (0 < numB n a ∧ tz (numB n a) < n) ↔ 0 < numB n a := ⟨fun h => h.1, fun h => ⟨h, (numB_down h).1⟩⟩
  simp only [h1, h2]
/-- the one position that is farthest away -/
theorem line_far {n a : Nat} (h1 : 1 ≤ n) (h2 : n ≤ 16) : ∃ e, e < 2 ^ n ∧ farL (bitS n a) = bitS n e ∧ farN (bitS n a) = farB n a e ∧ ∀ x, x < 2 ^ n → farB n a x ≤ farB n a e ∧ (farB n a x = farB n a e → x = e) := by
  have hM : 2 ≤ 2 ^ n := by
    have : 2 ^ 1 ≤ 2 ^ n := Nat.pow_le_pow_right (by omega) h1
    omega
  have hp := numB_lt n a
  have hev : 2 ^ n % 2 = 0 := by rw [show n = (n - 1) + 1 by omega, Nat.pow_succ]; omega
  have hc := chk_bits (s := a) h1 h2
  by_cases hlt : 2 ^ n - 1 - numB n a < numB n a
  · obtain ⟨e, he, hn⟩ := numB_onto (n := n) (m := 0) (by omega)
    refine ⟨e, he, ?_, ?_, fun x hx => ?_⟩
    · rw [farL, if_pos hc, bitS_length]; exact (if_pos hlt).trans (gray_bits hn)
    · rw [farN, if_pos hc, bitS_length]
      refine (if_pos hlt).trans ?_
      unfold farB distS; rw [hn]; unfold numB; omega
    · have hxl := numB_lt n x
      unfold farB distS
      rw [hn]
      refine ⟨by omega, fun h => numB_inj hx he (by omega)⟩
  · obtain ⟨e, he, hn⟩ := numB_onto (n := n) (m := 2 ^ n - 1) (by omega)
    refine ⟨e, he, ?_, ?_, fun x hx => ?_⟩
    · rw [farL, if_pos hc, bitS_length]; exact (if_neg hlt).trans (gray_bits hn)
    · rw [farN, if_pos hc, bitS_length]
      refine (if_neg hlt).trans ?_
      unfold farB distS; rw [hn]; unfold numB at *; omega
    · have hxl := numB_lt n x
      unfold farB distS
      rw [hn]
      refine ⟨by omega, fun h => numB_inj hx he (by omega)⟩
theorem o_reached {n a M : Nat} {F : List Int} (hn1 : 1 ≤ n) (hn : n ≤ 10) (ha : a < 2 ^ n) (hM : 2 ^ n = M) (hF : ((List.range M).map fun x => (farB n a x : Int)) = F) (w : World) :
    Calls Tryd.prog 39 #[.int .i64 n, .int .u32 a] w fun e w' => ∃ A c, e = .returned (.slice A M c) ∧ RInts w' w'.heap.size A M F ∧ Below w.heap.size w w' := by
  subst hM hF
  exact reached_any n a hn1 hn ha w
theorem o_far {w0 w : World} {l : List (Option Addr × Nat × List Int)} {A : Option Addr} {n c N : Nat} {xs ys : List Int} (h : Wk w0 w l) (h1 : (A, n, xs) ∈ l) (hn : n ≤ maxLen) (hc : chk xs = 0) (hL : farL xs = ys) (hy : ys.length = n) (hN : farN xs = N) :
    Calls Tryd.prog 20 #[.slice A n c] w fun e w' => ∃ A c, e = .returned (.tuple #[.slice A n c, .int .i64 N, .int .i64 0]) ∧ RInts w' w'.heap.size A n ys ∧ Below w.heap.size w w' := by
  refine (Far_any A n c xs w (h.get h1) hn).mono ?_
  rintro e w' ⟨A', n', c', e1, e2, _, e3⟩
  rw [hL] at e2
  obtain rfl : n' = n := by rw [← hy, e2.len]
  exact ⟨A', c', by rw [e1, hN, hc], e2, e3⟩
set_option maxRecDepth 100000 in
set_option maxHeartbeats 16000000 in
theorem line_law (x one two : Nat) (hx : x < 256) (h1 : one < 4294967296) (h2 : two < 4294967296) (w : World) (hT : Tab w) :
    Calls Tryd.prog 7 #[.int .u8 x, .int .u32 one, .int .u32 two] w fun e w' => e = .returned (.bool true) ∧ Below w.heap.size w w' := by
  have hr : (x : Int).tmod 10 = ((x % 10 : Nat) : Int) := by rw [Int.tmod_eq_emod_of_nonneg (by omega)]; omega
  obtain ⟨d, hd⟩ : ∃ d, d = x % 10 := ⟨_, rfl⟩
  rw [← hd] at hr
  have hd6 : d < 10 := by omega
  clear hd
  obtain ⟨n, hn⟩ : ∃ n, n = 1 + d := ⟨_, rfl⟩
  have hn1 : (1 : Int) + d = (n : Int) := by omega
  have hn2 : 1 ≤ n := by omega
  have hn3 : n ≤ 10 := by omega
  clear hn
  obtain ⟨P, Q, hP, hQ, hQ1, hQ2, hM⟩ := mask_let (k := n) (by omega)
  clear hQ1 hQ2
  have hma := hM one h1
  have hmb := hM two h2
  clear hM
  have hp : 0 < 2 ^ n := Nat.pow_pos (by omega)
  have h10 : 2 ^ n ≤ 2 ^ 10 := Nat.pow_le_pow_right (by omega) hn3
  have hla : one % 2 ^ n < 2 ^ n := Nat.mod_lt _ hp
  have hlb : two % 2 ^ n < 2 ^ n := Nat.mod_lt _ hp
  obtain ⟨a, hae⟩ : ∃ a, a = one % 2 ^ n := ⟨_, rfl⟩
  obtain ⟨b, hbe⟩ : ∃ b, b = two % 2 ^ n := ⟨_, rfl⟩
  rw [← hae] at hma hla
  rw [← hbe] at hmb hlb
  have ha10 : a < 1024 := by omega
  have hb10 : b < 1024 := by omega
  have ha32 : a < 4294967296 := by omega
  have hb32 : b < 4294967296 := by omega
  have hLA := Lib.hid hla
  have hLB := Lib.hid hlb
  have hn31 : n ≤ 31 := by omega
  obtain ⟨p, hpe⟩ : ∃ p, numS (bitS n a) = p := ⟨_, rfl⟩
  obtain ⟨q, hqe⟩ : ∃ q, numS (bitS n b) = q := ⟨_, rfl⟩
  have hpl := num_bits_lt n a
  have hql := num_bits_lt n b
  rw [hpe] at hpl
  rw [hqe] at hql
  have hp10 : p < 1024 := by omega
  have hq10 : q < 1024 := by omega
  have hPL := Lib.hid hpl
  have hQL := Lib.hid hql
  have hPE := Lib.hid hpe
  have hQE := Lib.hid hqe
  have hEE := Lib.hid (both_bits (s := a) (t := b) (r := n) hn2 (by omega))
  have hEB := Lib.hid (both_bits (s := b) (t := a) (r := n) hn2 (by omega))
  have hbig : ∀ s : Nat, (bitS n s).length ≤ 100000 := fun s => by rw [bitS_length]; omega
  have hBG := Lib.hid hbig
  have hdist : distS p q < 1024 := by unfold distS; omega
  clear hp h10 hla hlb hae hbe hpl hql hpe hqe hbig
  obtain ⟨M, hM⟩ : ∃ M, 2 ^ n = M := ⟨_, rfl⟩
  have hV1 : Value.int .i64 (wrap64 (2 ^ n)) = Value.int .i64 (M : Int) := by rw [wrap64_pow (by omega), hM]
  have hM10 : M ≤ 1024 := by rw [← hM]; exact Nat.pow_le_pow_right (by omega) hn3
  have hM2 : 2 ≤ M := by
    have : 2 ^ 1 ≤ 2 ^ n := Nat.pow_le_pow_right (by omega) hn2
    omega
  have hpM : p < M := by rw [← hM]; exact hPL.out
  have hqM : q < M := by rw [← hM]; exact hQL.out
  have hbM : b < M := by rw [← hM]; exact hLB.out
  have haM : a < M := by rw [← hM]; exact hLA.out
  obtain ⟨F, hF⟩ : ∃ F, ((List.range M).map fun x => (farB n a x : Int)) = F := ⟨_, rfl⟩
  have hFl : F.length = M := by rw [← hF]; simp
  have hFx := Lib.hid (show ∀ x, x < M → F[x]? = some (farB n a x : Int) by
    intro x hx
    rw [← hF]; simp [List.getElem?_range hx])
  have hFH := Lib.hid hF
  have hMH := Lib.hid hM
  have hCA := Lib.hid (chk_bits (r := n) (s := a) hn2 (by omega))
  have hCB := Lib.hid (chk_bits (r := n) (s := b) hn2 (by omega))
  have hFb : F[b]? = some ((distS p q : Nat) : Int) := by
    rw [hFx.out b hbM]
    congr 2
    rw [distS_comm]
    unfold farB numB
    rw [hPE.out, hQE.out]
  obtain ⟨D, hD⟩ : ∃ D, distS p q = D := ⟨_, rfl⟩
  rw [hD] at hFb hdist
  have hDx := Lib.hid (show D = (p - q) + (q - p) by rw [← hD]; rfl)
  have hDH := Lib.hid hD
  have hFbH := Lib.hid hFb
  have hn16 : n ≤ 16 := by omega
  clear hM hF hFb hD
  have hS := Wk.start hT
  go_enter Tryd.func7, Tryd.ntmps7
  go_wp2_with (fail)
  go_quiet (fail)
  replace hS := hS.step (below_drewN (Below.refl w.heap.size w) nq)
  clear hma hmb hP hQ
  have _k1 := hT
  have _k2 := hT
  have _k3 := hT
  have _k4 := hT
  have _k5 := hT
  have _k6 := hT
  go_upto_region 8 with (first
    | (go_at_call 39; clear _k1; refine (o_reached hn2 hn3 hLA.out hMH.out hFH.out _).mono ?_; rintro e w1 ⟨Af, cf, rfl, hr, hb⟩; replace hS := hS.also hb hr; clear hb hr)
    | (go_at_call 40; clear _k2; refine (o_given n a hn31 ha32 _).mono ?_; rintro e w1 ⟨Ax, cx, rfl, hr, hb⟩; replace hS := hS.also hb hr; clear hb hr)
    | (go_at_call 40; clear _k3; refine (o_given n b hn31 hb32 _).mono ?_; rintro e w1 ⟨Ay, cy, rfl, hr, hb⟩; replace hS := hS.also hb hr; clear hb hr)
    | (go_at_call 16; clear _k4; refine (o_number hS (.tail _ (.head _)) (max_of (hS.get (.tail _ (.head _))) (hBG.out _)) hCA.out hPE.out).mono ?_; rintro e w1 ⟨rfl, hb⟩; replace hS := hS.step hb; clear hb)
    | (go_at_call 16; clear _k5; refine (o_number hS (.head _) (max_of (hS.get (.head _)) (hBG.out _)) hCB.out hQE.out).mono ?_; rintro e w1 ⟨rfl, hb⟩; replace hS := hS.step hb; clear hb)
    | (go_at_call 23; clear _k6; refine (o_distance hS (.tail _ (.head _)) (max_of (hS.get (.tail _ (.head _))) (hBG.out _)) (.head _) (max_of (hS.get (.head _)) (hBG.out _)) hEE.out hPE.out hQE.out).mono ?_; rintro e w1 ⟨rfl, hb⟩; replace hS := hS.step hb; clear hb; rw [hDH.out]))
  obtain ⟨ad, rfl, hadb, hcells⟩ := (hS.get (.tail _ (.tail _ (.head _)))).2 (by omega)
  have hcb : w1.cell? (ad.add b) = some (.int .i64 (D : Int)) := hcells b _ (by simp [ints, hFbH.out])
  go_cut [120] from 72 to 120 (fun v wx => v = .bool false ∧ wx = w1)
  case first =>
    clear hcells
    have hpq0 : ¬ (p : Int) < 0 := by omega
    have hqq0 : ¬ (q : Int) < 0 := by omega
    have hpMi : ¬ (M : Int) ≤ p := by omega
    have hqMi : ¬ (M : Int) ≤ q := by omega
    have hDD := hDx.out
    by_cases hpq : p < q
    · have hd1 : (q : Int) - p = D := by omega
      have hd2 : (p : Int) - q < D := by omega
      clear hDD hpq
      go_wp2_with (fail)
      go_meet
      exact ⟨rfl, rfl⟩
    · have hd1 : (p : Int) - q = D := by omega
      have hd2 : ¬ (D : Int) < (q : Int) - p := by omega
      clear hDD hpq
      go_wp2_with (fail)
      go_meet
      exact ⟨rfl, rfl⟩
  case rest =>
    obtain ⟨rfl, rfl⟩ := hcut
    have _k1 := hT
    have _k2 := hT
    have _k3 := hT
    go_wp2_with (first
      | (go_at_call 18; clear _k1; refine (o_position hn2 hn16 hPL.out _).mono ?_; rintro e w1 ⟨Ag, cg, rfl, hr, hb⟩; replace hS := hS.also hb hr; clear hb hr)
      | (go_at_call 22; clear _k2; refine (o_same hS (.head _) (max_of (hS.get (.head _)) (by rw [grayS_length]; omega)) (.tail _ (.tail _ (.head _))) (max_of (hS.get (.tail _ (.tail _ (.head _)))) (hBG.out _)) (gray_bits hPE.out)).mono ?_; rintro e w1 ⟨rfl, hb⟩; replace hS := hS.step hb; clear hb)
      | (go_at_call 41; clear _k3; refine (o_moves hS (.tail _ (.tail _ (.head _))) (max_of (hS.get (.tail _ (.tail _ (.head _)))) (hBG.out _)) hCA.out).mono ?_; rintro e w1 ⟨Am, nm, cm, rfl, hr, hnm, hb⟩; replace hS := hS.also hb hr; clear hb))
    go_loopw [21, 22, 143] (fun v u i wr => ∃ k : Nat, k ≤ n ∧ i = .int .i64 k ∧ OwnI wr w1.heap.size v (mvK (bitS n a) k) ∧ u = .int .i64 (nearF M p k) ∧ Below w1.heap.size w1 wr) (fun _ _ i _ => n - (intOf i).toNat)
    case atStart => exact ⟨0, by omega, rfl, OwnI.nil _ _, by rw [nearF_zero], Below.refl _ _⟩
    case round =>
      obtain ⟨k, hk, rfl, hown, rfl, hbe⟩ := hrel
      have hNB := nearF_le M p k
      by_cases hkn : k < n
      · obtain ⟨N0, hN0⟩ : ∃ N0, nearF M p k = N0 := ⟨_, rfl⟩
        rw [hN0] at hNB ⊢
        have hmvl : (mvK (bitS n a) k).length ≤ 1000000000 := by have := mvK_le (bitS n a) k; omega
        cases hf : freeB a k with
        | false =>
          have hmv := Lib.hid (mvK_no (xs := bitS n a) (k := k) (by rw [canS_bits hkn]; exact hf))
          have hnn := nearF_no (n := n) hf
          unfold numB at hnn
          rw [hPE.out, hMH.out, hN0] at hnn
          replace hnn := Lib.hid hnn
          replace hf := Lib.hid hf
          clear hN0
          go_wp2_with (first
            | (go_at_call 42
               refine (free_any a k (by omega) ha32 _ _ rfl rfl _).mono ?_
               rintro e w2 ⟨rfl, hb2⟩
               rw [hf.out]
               have hown2 := hown.callee hb2
               have hbe2 := hbe.trans (hb2.mono hbe.size)))
          go_roundw
          case rel => exact ⟨k + 1, by omega, by go_num, by rw [hmv.out]; exact hown2, by rw [hnn.out], hbe2⟩
          case measure => simp [intOf]; omega
        | true =>
          have hmv := Lib.hid (mvK_yes (xs := bitS n a) (k := k) (by rw [canS_bits hkn]; exact hf))
          have hxl := xor_pow_lt hLA.out hkn
          rw [hMH.out] at hxl
          have hx32 : a ^^^ 2 ^ k < 4294967296 := by omega
          have hxg := xor_go a k ha32 (by omega)
          have hCX := Lib.hid (chk_bits (r := n) (s := a ^^^ 2 ^ k) hn2 (by omega))
          have hml := numB_lt n (a ^^^ 2 ^ k)
          have hmm := numB_move hkn hf
          have hpp : numB n a = p := hPE.out
          rw [hMH.out] at hml
          rw [hpp] at hmm
          obtain ⟨m, hme⟩ : ∃ m, numB n (a ^^^ 2 ^ k) = m := ⟨_, rfl⟩
          rw [hme] at hml hmm
          have hMX : Hid (numS (bitS n (a ^^^ 2 ^ k)) = m) := Lib.hid hme
          replace hf := Lib.hid hf
          clear hme hxl
          rcases hmm with ⟨hm1, hm2⟩ | ⟨hm1, hm2⟩
          · have hnn := nearF_up (M := M) (p := p) (by omega) hm2
            rw [hN0] at hnn
            replace hnn := Lib.hid hnn
            have ht1 : ((m : Int) != (p : Int) - 1) = true := by simp; omega
            have ht2 : ((m : Int) != (p : Int) + 1) = false := by simp; omega
            have ht3 : (m : Int) - p = 1 := by omega
            clear hN0 hm1 hm2
            go_wp2_with (first
              | (go_at_call 42
                 refine (free_any a k (by omega) ha32 _ _ rfl rfl _).mono ?_
                 rintro e w2 ⟨rfl, hb2⟩
                 rw [hf.out]
                 have hown2 := hown.callee hb2
                 have hbe2 := hbe.trans (hb2.mono hbe.size))
              | (at_builtin
                 refine wpList_push rfl _ _ rfl rfl (hown2.none_ (World.grownBy_alloc w2 _ none)) w2.heap.size 1 k rfl (Blk.new _ _ _) hmvl (by simp; have := hbe2.size; omega) ?_
                 intro g5 cap5 w5 hown5 hg5 hat5 hlt5
                 have hbe5 := (hbe2.alloc hbe2.size _).grown hg5 (by simp; have := hbe2.size; omega) (fun j hj => hown2.ge hj)
                 clear hg5 hat5)
              | (go_at_call 40; refine (o_given n (a ^^^ 2 ^ k) hn31 hx32 _).mono ?_; rintro e w6 ⟨Az, cz, rfl, hr, hb6⟩
                 have hown6 := hown5.callee hb6
                 have hbe6 := hbe5.trans (hb6.mono hbe5.size)
                 have hS6 := (hS.step hbe6).add hr
                 clear hr hb6)
              | (go_at_call 16; refine (o_number hS6 (.head _) (max_of (hS6.get (.head _)) (hBG.out _)) hCX.out hMX.out).mono ?_; rintro e w7 ⟨rfl, hb7⟩
                 have hown7 := hown6.callee hb7
                 have hbe7 := hbe6.trans (hb7.mono hbe6.size)))
            go_roundw
            case rel => exact ⟨k + 1, by omega, by go_num, by rw [hmv.out]; exact hown7, by rw [hnn.out], hbe7⟩
            case measure => simp [intOf]; omega
          · have hnn := nearF_down (M := M) (p := p) (by omega) hm2
            rw [hN0] at hnn
            replace hnn := Lib.hid hnn
            have ht1 : ((m : Int) != (p : Int) - 1) = false := by simp; omega
            have ht3 : (m : Int) - p = -1 := by omega
            clear hN0 hm1 hm2
            go_wp2_with (first
              | (go_at_call 42
                 refine (free_any a k (by omega) ha32 _ _ rfl rfl _).mono ?_
                 rintro e w2 ⟨rfl, hb2⟩
                 rw [hf.out]
                 have hown2 := hown.callee hb2
                 have hbe2 := hbe.trans (hb2.mono hbe.size))
              | (at_builtin
                 refine wpList_push rfl _ _ rfl rfl (hown2.none_ (World.grownBy_alloc w2 _ none)) w2.heap.size 1 k rfl (Blk.new _ _ _) hmvl (by simp; have := hbe2.size; omega) ?_
                 intro g5 cap5 w5 hown5 hg5 hat5 hlt5
                 have hbe5 := (hbe2.alloc hbe2.size _).grown hg5 (by simp; have := hbe2.size; omega) (fun j hj => hown2.ge hj)
                 clear hg5 hat5)
              | (go_at_call 40; refine (o_given n (a ^^^ 2 ^ k) hn31 hx32 _).mono ?_; rintro e w6 ⟨Az, cz, rfl, hr, hb6⟩
                 have hown6 := hown5.callee hb6
                 have hbe6 := hbe5.trans (hb6.mono hbe5.size)
                 have hS6 := (hS.step hbe6).add hr
                 clear hr hb6)
              | (go_at_call 16; refine (o_number hS6 (.head _) (max_of (hS6.get (.head _)) (hBG.out _)) hCX.out hMX.out).mono ?_; rintro e w7 ⟨rfl, hb7⟩
                 have hown7 := hown6.callee hb7
                 have hbe7 := hbe6.trans (hb7.mono hbe6.size)))
            go_roundw
            case rel => exact ⟨k + 1, by omega, by go_num, by rw [hmv.out]; exact hown7, by rw [hnn.out]; first | rfl | (congr 1; omega), hbe7⟩
            case measure => simp [intOf]; omega
      · obtain rfl : k = n := by omega
        have hne := nearF_end k a
        unfold numB at hne
        rw [hPE.out, hMH.out] at hne
        obtain ⟨Av, cv, rfl, hrv⟩ := hown.reads
        replace hS := (hS.step hbe).add hrv
        have hmvn : (mvK (bitS k a) k).length ≤ 100000 := by have := mvK_le (bitS k a) k; omega
        clear hown hrv hNB
        obtain ⟨N0, hN0⟩ : ∃ N0, nearF M p k = N0 := ⟨_, rfl⟩
        rw [hN0] at hne ⊢
        go_upto_if 185 with (fail)
        go_cut [26] from 184 to 190 (fun v wx => v = .int .i64 N0 ∧ wx = wr)
        case first =>
          rcases Nat.eq_zero_or_pos p with hp0 | hp0
          · have ht1 : ((p : Int) == 0) = true := by simp; omega
            obtain rfl : N0 = 1 := by rw [hne, if_pos (by omega), if_neg (by omega)]; rfl
            clear hne hp0
            go_wp2_with (fail)
            go_meet
            exact ⟨rfl, rfl⟩
          · have ht1 : ((p : Int) == 0) = false := by simp; omega
            by_cases hpt : p + 1 < M
            · have ht2 : ((p : Int) == (M : Int) - 1) = false := by simp; omega
              obtain rfl : N0 = 0 := by rw [hne, if_pos hpt, if_pos hp0]; rfl
              clear hne hp0 hpt
              go_wp2_with (fail)
              go_meet
              exact ⟨rfl, rfl⟩
            · have ht2 : ((p : Int) == (M : Int) - 1) = true := by simp; omega
              obtain rfl : N0 = -1 := by rw [hne, if_neg hpt, if_pos hp0]; rfl
              clear hne hp0 hpt
              go_wp2_with (fail)
              go_meet
              exact ⟨rfl, rfl⟩
        case rest =>
          obtain ⟨rfl, rfl⟩ := hcut
          clear hne hN0
          obtain ⟨e, heM, heL, heN, hEx⟩ := line_far (n := k) (a := a) hn2 hn16
          rw [hMH.out] at heM hEx
          have he32 : e < 4294967296 := by omega
          obtain ⟨N, hNe⟩ : ∃ N, farB k a e = N := ⟨_, rfl⟩
          rw [hNe] at heN hEx
          have hN10 : N ≤ 1024 := by
            have h3 := numB_lt k e
            have h4 := numB_lt k a
            rw [hMH.out] at h3 h4
            unfold farB distS at hNe
            omega
          have hELH := Lib.hid heL
          have hENH := Lib.hid heN
          have hEXH := Lib.hid hEx
          have hNEH := Lib.hid hNe
          clear heL heN hEx hNe
          have _k1 := hT
          have _k2 := hT
          go_wp2_with (first
            | (go_at_call 22; clear _k1; refine (o_same hS (.tail _ (.head _)) (max_of (hS.get (.tail _ (.head _))) (by rw [bitS_length]; exact hmvn)) (.head _) (max_of (hS.get (.head _)) hmvn) (by rw [bitS_length])).mono ?_; rintro e w1 ⟨rfl, hb⟩; replace hS := hS.step hb; clear hb)
            | (go_at_call 20; clear _k2; refine (o_far hS (.tail _ (.tail _ (.tail _ (.tail _ (.head _))))) (max_of (hS.get (.tail _ (.tail _ (.tail _ (.tail _ (.head _)))))) (hBG.out _)) hCA.out hELH.out (bitS_length _ _) hENH.out).mono ?_; rintro e w1 ⟨Az, cz, rfl, hr, hb⟩; replace hS := hS.also hb hr; clear hb hr))
          go_loopw [30, 208] (fun u i wr => ∃ i' top : Nat, i' ≤ M ∧ i = .int .i64 i' ∧ u = .int .u32 top ∧ top < M ∧ Hid (∀ x, x < i' → farB k a x ≤ farB k a top) ∧ Below w1.heap.size w1 wr) (fun _ i _ => M - (intOf i).toNat)
          case atStart => exact ⟨0, 0, by omega, rfl, rfl, by omega, Lib.hid (fun x hx => by omega), Below.refl _ _⟩
          case round =>
            obtain ⟨i, top, hi, rfl, rfl, htop, hall, hbe⟩ := hrel
            obtain ⟨ad', had, hadb', hcells'⟩ := (Reads.below (hS.get (.tail _ (.tail _ (.tail _ (.tail _ (.tail _ (.tail _ (.head _)))))))) hbe).2 (by omega)
            injection had with had
            subst had
            by_cases hiM : i < M
            · obtain ⟨fi, hfi⟩ : ∃ fi, farB k a i = fi := ⟨_, rfl⟩
              obtain ⟨ft, hft⟩ : ∃ ft, farB k a top = ft := ⟨_, rfl⟩
              have hc1 : wr.cell? (ad.add i) = some (.int .i64 (fi : Int)) := hcells' i _ (by simp [ints, hFx.out i hiM, hfi])
              have hc2 : wr.cell? (ad.add top) = some (.int .i64 (ft : Int)) := hcells' top _ (by simp [ints, hFx.out top htop, hft])
              have hf0 : ¬ (fi : Int) < 0 := by omega
              have hi32 : i < 4294967296 := by omega
              have hfiH := Lib.hid hfi
              have hftH := Lib.hid hft
              clear hcells' hfi hft
              by_cases hlt : ft < fi
              · have hlti : (ft : Int) < fi := by omega
                go_wp2_with (fail)
                go_roundw
                case rel => exact ⟨i + 1, i, by omega, by go_num, by first | rfl | (congr 1; omega), hiM, Lib.hid (fun x hx => by
                  rcases Nat.lt_or_ge x i with h | h
                  · have := hall.out x h
                    rw [hftH.out] at this
                    rw [hfiH.out]; omega
                  · obtain rfl : x = i := by omega
                    exact Nat.le_refl _), hbe⟩
                case measure => simp [intOf]; omega
              · have hlti : ¬ (ft : Int) < fi := by omega
                go_wp2_with (fail)
                go_roundw
                case rel => exact ⟨i + 1, top, by omega, by go_num, rfl, htop, Lib.hid (fun x hx => by
                  rcases Nat.lt_or_ge x i with h | h
                  · exact hall.out x h
                  · obtain rfl : x = i := by omega
                    rw [hfiH.out, hftH.out]; omega), hbe⟩
                case measure => simp [intOf]; omega
            · obtain rfl : i = M := by omega
              obtain rfl : top = e := by
                have h1 := hall.out e heM
                rw [hNEH.out] at h1
                have h2 := hEXH.out top htop
                exact h2.2 (by omega)
              have hc2 : wr.cell? (ad.add top) = some (.int .i64 (N : Int)) := hcells' top _ (by simp [ints, hFx.out top htop, hNEH.out])
              clear hcells'
              replace hS := hS.step hbe
              have _k1 := hT
              have _k2 := hT
              have _k3 := hT
              go_wp2_with (first
                | (go_at_call 40; clear _k1; refine (o_given k top hn31 he32 _).mono ?_; rintro e w1 ⟨Ao, co, rfl, hr, hb⟩; replace hS := hS.also hb hr; clear hb hr)
                | (go_at_call 22; clear _k2; refine (o_same hS (.tail _ (.head _)) (max_of (hS.get (.tail _ (.head _))) (hBG.out _)) (.head _) (max_of (hS.get (.head _)) (hBG.out _)) rfl).mono ?_; rintro e w1 ⟨rfl, hb⟩; replace hS := hS.step hb; clear hb)
                | (go_at_call 15; clear _k3; refine (o_works hS).mono ?_; rintro e w1 ⟨rfl, hb⟩; replace hS := hS.step hb; clear hb))
              go_ret
              exact ⟨rfl, hS.2.1⟩
end Go.Proofs.YtjhcemhnnkcjaaaDoor
