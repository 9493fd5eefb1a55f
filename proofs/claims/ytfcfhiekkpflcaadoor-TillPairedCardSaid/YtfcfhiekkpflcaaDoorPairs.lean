/- Pairs. -/
import Derived.Test.YtfcfhiekkpflcaaDoorPairK
namespace Go.Proofs.YtfcfhiekkpflcaaDoor
open Go.RowKit
/-- whose coins go back to whom: places of coins lie on a heap -/
def pairT : Word → Nat → List Nat → List (Nat × Nat)
  | [], _, _ => []
  | y :: l, i, st => if y = 99 then pairT l (i + 1) (st ++ [i]) else (st.getLastD 0, i) :: pairT l (i + 1) st.dropLast
def pairL (l : Word) : List (Nat × Nat) := if chkT l = 0 ∧ lacksT l 0 < 0 then pairT l 0 [] else []
def pairE (l : Word) : Int := if chkT l ≠ 0 then chkT l else if lacksT l 0 < 0 then 0 else 14
def RetPE (xs : List (Nat × Nat)) (err : Int) (w : World) (e : Ending) (w' : World) : Prop := ∃ v, e = .returned (.tuple #[v, .int .i64 err]) ∧ OwnP w' w.heap.size v xs ∧ Below w.heap.size w w'
theorem negI_all {xs : List Int} : ∀ i : Nat, negI xs i < 0 → ∀ x ∈ xs, 0 ≤ x := by
  induction xs with
  | nil => intro i _ x hx; cases hx
  | cons y xs ih =>
    intro i h x hx
    rw [negI] at h
    split at h
    · omega
    · rcases List.mem_cons.1 hx with rfl | hx
      · omega
      · exact ih (i + 1) h x hx
theorem lacks_end {l : Word} {b : Int} (h : lacksT l b < 0) {i : Nat} (hi : i < l.length) : 0 ≤ endT b (l.take (i + 1)) :=
  negI_all 0 h _ (List.mem_of_getElem? (steps_get l b i hi))
def nats (l : List Nat) : List Int := l.map fun k : Nat => (k : Int)
set_option maxRecDepth 100000 in
set_option maxHeartbeats 4000000 in
theorem Pairs_any (s : ByteArray) (w : World) : Calls Tryd.prog 33 #[.string s] w (RetPE (pairL (bts s)) (pairE (bts s)) w) := by
  obtain ⟨k, hk⟩ : ∃ k, chkT (bts s) = k := ⟨_, rfl⟩
  have hkH := Lib.hid hk
  by_cases h0 : k = 0
  · subst h0
    obtain ⟨h4, h5⟩ := chkT_zero hk
    rw [bts_len] at h4
    obtain ⟨n, hn⟩ : ∃ n, lacksT (bts s) 0 = n := ⟨_, rfl⟩
    have hlk := Lib.hid (fun w' => lacks_any s 0 (by omega) h5 (by omega) w')
    rw [hn] at hlk
    by_cases hq : n < 0
    · obtain ⟨R, hR⟩ : ∃ R, pairT (bts s) 0 [] = R := ⟨_, rfl⟩
      have hL := Lib.hid (show pairL (bts s) = R by unfold pairL; rw [if_pos ⟨hk, by omega⟩, hR])
      have hE := Lib.hid (show pairE (bts s) = 0 by unfold pairE; rw [hk, hn]; simp [hq])
      have hRH := Lib.hid (show [] ++ pairT ((bts s).drop 0) 0 [] = R from hR)
      have hend := Lib.hid (fun i hi => lacks_end (l := bts s) (b := 0) (by omega) (i := i) hi)
      have hokH := Lib.hid h5
      have hqi : ¬ (0 : Int) ≤ n := by omega
      rw [hL.out, hE.out]
      clear hk hn h5 hR
      go_enter Tryd.func33, Tryd.ntmps33
      go_wp2_with (first
        | (go_at_call 21; (with_reducible refine (Check_any _ _).mono ?_); rintro e w1 ⟨rfl, hb1⟩; rw [hkH.out])
        | (go_at_call 48; (with_reducible refine (hlk.out _).mono ?_); rintro e w2 ⟨rfl, hb2⟩; replace hb2 := hb1.trans (hb2.mono hb1.size)))
      go_loopw [5, 6] (fun o5 o6 wr => ∃ (pos : Nat) (st : List Nat) (P : List (Nat × Nat)), pos ≤ s.size ∧ Hid ((st.length : Int) = endT 0 ((bts s).take pos)) ∧ st.length ≤ pos ∧ P.length ≤ pos ∧ Hid (∀ x ∈ st, x < pos) ∧ Hid (P ++ pairT ((bts s).drop pos) pos st = R) ∧ OwnP wr w2.heap.size o5 P ∧ Stk wr w2.heap.size o6 (nats st) ∧ wr.heap[w2.heap.size]? = some (.stringIter s pos) ∧ Below w2.heap.size w2 wr) (fun _ _ wr => s.size - wr.iterPos w2.heap.size)
      case atStart => exact ⟨0, [], [], by omega, Lib.hid rfl, by simp, by simp, Lib.hid (fun x hx => by cases hx), hRH, OwnP.nil _ _, Or.inl (OwnI.nil _ _), by first | exact World.iter_heap w2 s 0 | simp, (Below.refl _ _).alloc (Nat.le_refl _) _⟩
      case round =>
        obtain ⟨pos, st, P, hpos, hst, hsl, hPl, hlt, hL', hoP, hoS, hit, hbe⟩ := hrel
        by_cases hp : pos < s.size
        · obtain ⟨y, wn, hy, hitn, hgn, hyy⟩ := iter_cn hokH.out hit hp
          have hben := below_some hbe hgn hbe.size (Nat.le_refl _)
          have hd : (bts s).drop pos = y :: (bts s).drop (pos + 1) := by
            obtain ⟨hl, he⟩ := List.getElem?_eq_some_iff.1 hy
            rw [List.drop_eq_getElem_cons hl, he]
          have hPn : OwnP wn w2.heap.size _ P := hoP.keep fun g hg => hgn.block g (hoP.lt hg) (fun e => by
            obtain ⟨cs, hcs⟩ := hoP.block hg
            injection e with e
            rw [e, hit] at hcs
            cases hcs)
          have hSn : Stk wn w2.heap.size _ (nats st) := hoS.keep fun g cs hg _ => hgn.block g (heap_lt hg) (fun e => by
            injection e with e
            rw [e, hit] at hg
            cases hg)
          have hend2 := hend.out pos (by rw [bts_len]; exact hp)
          have het : endT 0 ((bts s).take (pos + 1)) = stp st.length y := by rw [List.take_add_one, hy, Option.toList_some, end_snoc, ← hst.out]
          rw [het] at hend2
          have hetH := Lib.hid het
          have hLo := hL'.out
          rw [hd] at hLo
          have hnl : (nats st).length = st.length := by simp [nats]
          rcases hyy with ⟨rfl, hnx⟩ | ⟨rfl, hnx⟩
          · have hN := Lib.hid (show P ++ pairT ((bts s).drop (pos + 1)) (pos + 1) (st ++ [pos]) = R by rw [← hLo, pairT, if_pos rfl])
            have hst1 := Lib.hid (show ((st ++ [pos]).length : Int) = endT 0 ((bts s).take (pos + 1)) by rw [hetH.out]; simp [stp])
            have hlt1 := Lib.hid (show ∀ x ∈ st ++ [pos], x < pos + 1 by
              intro x hx
              rcases List.mem_append.1 hx with hx | hx
              · have := hlt.out x hx; omega
              · obtain rfl : x = pos := by simpa using hx
                omega)
            have hns := Lib.hid (show nats (st ++ [pos]) = nats st ++ [(pos : Int)] by simp [nats])
            clear hy hd hLo het hend2
            go_wp2_with (first
              | (at_builtin
                 refine wpList_pushK rfl _ _ rfl rfl (hSn.keep fun g cs hg _ => (World.grownBy_alloc wn (.cells #[.int .i64 (pos : Int)] 3) none).block g (heap_lt hg) (by simp)) wn.heap.size 1 (pos : Int) rfl (Blk.new wn _ _) (by omega) (by have := hben.size; show _ ≤ (wn.heap.push _).size; simp; omega) ?_
                 intro v6 w6 row6 ho6 hgr6 hrow6
                 have hb6 := (hben.alloc hben.size (.cells #[.int .i64 (pos : Int)] 3)).grown hgr6 (by have := hben.size; show _ ≤ (wn.heap.push _).size; simp; omega) (fun g hg => (hrow6 g hg).1)
                 have hit6 := iter_stay (iter_stay hitn (World.grownBy_alloc wn (.cells #[.int .i64 (pos : Int)] 3) none) (by simp)) hgr6 (fun e => by
                   obtain ⟨_, cs, hcs⟩ := hrow6 _ e.symm
                   have := iter_stay hitn (World.grownBy_alloc wn (.cells #[.int .i64 (pos : Int)] 3) none) (by simp)
                   rw [this] at hcs
                   cases hcs)
                 have hP1 := hPn.none_ (World.grownBy_alloc wn (.cells #[.int .i64 (pos : Int)] 3) none)
                 have hP6 : OwnP w6 w2.heap.size _ P := hP1.keep fun g hg => hgr6.block g (hP1.lt hg) (fun e => by
                   obtain ⟨_, cs, hcs⟩ := hrow6 _ e.symm
                   obtain ⟨cs2, hcs2⟩ := hP1.block hg
                   rw [hcs2] at hcs
                   injection hcs with hcs
                   injection hcs with _ hcs
                   exact absurd hcs (by decide))))
            go_roundw
            case rel => exact ⟨pos + 1, st ++ [pos], P, by omega, hst1, by simp; omega, by omega, hlt1, hN, hP6, by rw [hns.out]; exact ho6, hit6, hb6⟩
            case measure => simp only [World.iterPos, hit, hit6]; omega
          · have h110 : stp (st.length : Int) 110 = (st.length : Int) - 1 := rfl
            rw [h110] at hend2
            obtain ⟨st0, t, rfl⟩ : ∃ st0 t, st = st0 ++ [t] := by
              have hne : st ≠ [] := by
                intro e
                rw [e] at hend2
                simp at hend2
              exact ⟨st.dropLast, st.getLast hne, (List.dropLast_concat_getLast hne).symm⟩
            have hns : nats (st0 ++ [t]) = nats st0 ++ [(t : Int)] := by simp [nats]
            rw [hns] at hSn
            obtain ⟨g, c, hv, hcc, hcell, hS0⟩ := Stk.pop hSn
            subst hv
            have htp := hlt.out t (by simp)
            rw [List.length_append, List.length_singleton] at hsl
            have hql : (nats st0).length ≤ 16 := by
              have : (nats st0).length = st0.length := by simp [nats]
              omega
            obtain ⟨q, hqe⟩ : ∃ q, (nats st0).length = q := ⟨_, rfl⟩
            rw [hqe] at hcell hS0 hcc hql ⊢
            have hN := Lib.hid (show (P ++ [(t, pos)]) ++ pairT ((bts s).drop (pos + 1)) (pos + 1) st0 = R by rw [← hLo, pairT, if_neg (by decide)]; simp)
            have hst1 := Lib.hid (show (st0.length : Int) = endT 0 ((bts s).take (pos + 1)) by rw [hetH.out, h110]; simp)
            have hlt1 := Lib.hid (show ∀ x ∈ st0, x < pos + 1 by
              intro x hx
              have := hlt.out x (by simp [hx])
              omega)
            have hqc : (q : Int) ≤ c := by omega
            clear hy hd hLo het hend2 hnl hns hqe hSn hoS
            go_wp2_with (first
              | (at_builtin
                 refine wpList_pushP rfl _ _ rfl rfl (hPn.none_ (World.grownBy_alloc wn (.cells #[.int .i64 (t : Nat), .int .i64 (pos : Nat)] 52) none)) wn.heap.size 1 t pos rfl (Blk.new wn _ _) (by omega) (by have := hben.size; show _ ≤ (wn.heap.push _).size; simp; omega) ?_
                 intro v6 w6 ho6 hgr6
                 have hP1 := hPn.none_ (World.grownBy_alloc wn (.cells #[.int .i64 (t : Nat), .int .i64 (pos : Nat)] 52) none)
                 have hb6 := (hben.alloc hben.size (.cells #[.int .i64 (t : Nat), .int .i64 (pos : Nat)] 52)).grown hgr6 (by have := hben.size; show _ ≤ (wn.heap.push _).size; simp; omega) (fun g hg => hP1.ge hg)
                 have hit6 := iter_stay (iter_stay hitn (World.grownBy_alloc wn (.cells #[.int .i64 (t : Nat), .int .i64 (pos : Nat)] 52) none) (by simp)) hgr6 (fun e => by
                   obtain ⟨cs, hcs⟩ := hP1.block e.symm
                   have := iter_stay hitn (World.grownBy_alloc wn (.cells #[.int .i64 (t : Nat), .int .i64 (pos : Nat)] 52) none) (by simp)
                   rw [this] at hcs
                   cases hcs)
                 have hS1 := hS0.keep (w' := wn.alloc (.cells #[.int .i64 (t : Nat), .int .i64 (pos : Nat)] 52)) fun g cs hg _ => (World.grownBy_alloc wn (.cells #[.int .i64 (t : Nat), .int .i64 (pos : Nat)] 52) none).block g (heap_lt hg) (by simp)
                 have hS6 := hS1.keep (w' := w6) fun g cs hg _ => hgr6.block g (heap_lt hg) (fun e => by
                   obtain ⟨cs2, hcs2⟩ := hP1.block e.symm
                   rw [hcs2] at hg
                   injection hg with hg
                   injection hg with _ hg
                   exact absurd hg (by decide))))
            go_roundw
            case rel => exact ⟨pos + 1, st0, P ++ [(t, pos)], by omega, hst1, by omega, by simp; omega, hlt1, hN, ho6, hS6, hit6, hb6⟩
            case measure => simp only [World.iterPos, hit, hit6]; omega
        · have hnx := iter_end hit hp
          have hPR := Lib.hid (show P = R by
            have := hL'.out
            rw [List.drop_of_length_le (by rw [bts_len]; omega), pairT, List.append_nil] at this
            exact this)
          rw [hPR.out] at hoP
          go_wp2_with (fail)
          go_ret2
          exact ⟨_, rfl, hoP.rebase hb2.size, hb2.trans (hbe.mono hb2.size)⟩
    · have hL := Lib.hid (show pairL (bts s) = [] by unfold pairL; rw [hn, if_neg (by omega)])
      have hE := Lib.hid (show pairE (bts s) = 14 by unfold pairE; rw [hk, hn]; simp [hq])
      have hqi : (0 : Int) ≤ n := by omega
      rw [hL.out, hE.out]
      clear hk hn h5
      go_enter Tryd.func33, Tryd.ntmps33
      go_wp2_with (first
        | (go_at_call 21; (with_reducible refine (Check_any _ _).mono ?_); rintro e w1 ⟨rfl, hb1⟩; rw [hkH.out])
        | (go_at_call 48; (with_reducible refine (hlk.out _).mono ?_); rintro e w2 ⟨rfl, hb2⟩; replace hb2 := hb1.trans (hb2.mono hb1.size)))
      go_ret2
      exact ⟨_, rfl, OwnP.nil _ _, hb2⟩
  · have hL := Lib.hid (show pairL (bts s) = [] by unfold pairL; rw [hk]; simp [h0])
    have hE := Lib.hid (show pairE (bts s) = k by unfold pairE; rw [hk]; simp [h0])
    have hk0 : (k != 0) = true := by simp [h0]
    rw [hL.out, hE.out]
    clear hk
    go_enter Tryd.func33, Tryd.ntmps33
    go_wp2_with (first
      | (go_at_call 21; (with_reducible refine (Check_any _ _).mono ?_); rintro e w1 ⟨rfl, hb1⟩; rw [hkH.out]))
    go_ret2
    exact ⟨_, rfl, OwnP.nil _ _, hb1⟩
end Go.Proofs.YtfcfhiekkpflcaaDoor
