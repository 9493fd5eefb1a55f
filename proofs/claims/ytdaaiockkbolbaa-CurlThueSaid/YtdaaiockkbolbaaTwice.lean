/- The law's twice: all repeats of a word; letter. -/
import Derived.Test.YtdaaiockkbolbaaOwnS
import Derived.Test.YtdaaiockkbolbaaPlain
import Derived.Deep.RegionHeld3
namespace Go.Proofs.Ytdaaiockkbolbaa
open Go.RowKit
/-- whether two equal parts of k letters stand at a place -/
def sqAt (l : Word) (a k : Nat) : Bool := (l.drop a).take k == (l.drop (a + k)).take k
def rowN (l : Word) (k m : Nat) : List (Nat × Nat) := ((List.range m).filter fun a => sqAt l a k).map fun a => (a, k)
/-- all repeats, as place and size: by sizes -/
def twN (l : Word) (m : Nat) : List (Nat × Nat) := (List.range' 1 m).flatMap fun k => rowN l k (l.length + 1 - 2 * k)
def twL (l : Word) : List (Nat × Nat) := twN l (l.length / 2)
theorem rowN_succ (l : Word) (k m : Nat) : rowN l k (m + 1) = rowN l k m ++ (if sqAt l m k then [(m, k)] else []) := by
  unfold rowN
  rw [List.range_succ, List.filter_append, List.map_append]
  congr 1
  by_cases h : sqAt l m k = true
  · simp [h]
  · simp [h]
theorem rowN_len (l : Word) (k m : Nat) : (rowN l k m).length ≤ m := by
  unfold rowN
  rw [List.length_map]
  exact Nat.le_trans (List.length_filter_le _ _) (by simp)
theorem twN_succ (l : Word) (m : Nat) : twN l (m + 1) = twN l m ++ rowN l (m + 1) (l.length + 1 - 2 * (m + 1)) := by
  unfold twN
  rw [List.range'_1_concat, List.flatMap_append]
  simp [Nat.add_comm]
theorem twN_len (l : Word) (m : Nat) : (twN l m).length ≤ m * (l.length + 1) := by
  induction m with
  | zero => simp [twN]
  | succ m ih =>
    rw [twN_succ, List.length_append, Nat.add_mul, Nat.one_mul]
    exact Nat.add_le_add ih (Nat.le_trans (rowN_len l (m + 1) (l.length + 1 - 2 * (m + 1))) (by omega))
theorem sq_go (s : ByteArray) {a u e k : Nat} (hu : a + k = u) (he : u + k = e) : ((s.extract a u).toList == (s.extract u e).toList) = sqAt (bts s) a k := by
  rw [ByteArray.toList_eq, ByteArray.toList_eq]
  show (bts (s.extract a u) == bts (s.extract u e)) = _
  rw [bts_extract, bts_extract, sqAt, List.drop_take, List.drop_take, ← hu, ← he]
  congr 1
  · congr 1; omega
  · rw [hu]; congr 1; omega
/-- a list of pairs that the call itself makes -/
def pairsV (ps : List (Nat × Nat)) : List Value := ps.flatMap fun p => [.int .i64 (p.1 : Nat), .int .i64 (p.2 : Nat)]
def OwnP (w : World) (base : Nat) (v : Value) (ps : List (Nat × Nat)) : Prop := w.ownsRow base 59 2 v ps.length (pairsV ps)
theorem infoPair : (Try.prog.info? 59).map (fun i => (i.zero, i.size, i.bytes)) = some (some (.agg #[.int .i64 0, .int .i64 0]), 2, 16) := by kernel_rfl
theorem OwnP.nil (w : World) (base : Nat) : OwnP w base (.slice none 0 0) [] := World.ownsRow_nil _ _ _ _
theorem OwnP.keep {w w' : World} {base : Nat} {v : Value} {ps : List (Nat × Nat)} (h : OwnP w base v ps) (hk : ∀ g, v.ownBlock = some g → w'.heap[g]? = w.heap[g]?) : OwnP w' base v ps := by
  refine ⟨h.1, ?_⟩
  rcases h.2 with h0 | ⟨g, cap, cur, rfl, hb, hg, r⟩
  · exact .inl h0
  · exact .inr ⟨g, cap, cur, rfl, hb, (hk g rfl).trans hg, r⟩
theorem OwnP.drewN {w : World} {base : Nat} {v : Value} {ps : List (Nat × Nat)} (h : OwnP w base v ps) (n : Nat) : OwnP (w.drewN n) base v ps := h
theorem OwnP.ge {w : World} {base : Nat} {v : Value} {ps : List (Nat × Nat)} (h : OwnP w base v ps) {g : Nat} (hg : v.ownBlock = some g) : base ≤ g := (World.ownsRow.lt h g hg).1
theorem OwnP.lt {w : World} {base : Nat} {v : Value} {ps : List (Nat × Nat)} (h : OwnP w base v ps) {g : Nat} (hg : v.ownBlock = some g) : g < w.heap.size := (World.ownsRow.lt h g hg).2
theorem OwnP.callee {w w' : World} {base : Nat} {v : Value} {ps : List (Nat × Nat)} (h : OwnP w base v ps) (hb : Below w.heap.size w w') : OwnP w' base v ps := h.keep fun g hg => hb.block g (h.lt hg)
theorem OwnP.none_ {w w' : World} {base : Nat} {v : Value} {ps : List (Nat × Nat)} (h : OwnP w base v ps) (hb : w.grownBy w' none) : OwnP w' base v ps := h.keep fun g hg => hb.block g (h.lt hg) (by simp)
theorem OwnP.form {w : World} {base : Nat} {v : Value} {ps : List (Nat × Nat)} (h : OwnP w base v ps) : ∃ A c, v = .slice A ps.length c := by
  rcases h.2 with ⟨rfl, h0⟩ | ⟨g, cap, cur, rfl, _⟩
  · exact ⟨none, 0, by rw [h0]⟩
  · exact ⟨_, _, rfl⟩
theorem wpList_pushP {w : World} {base : Nat} {v : Value} {ps : List (Nat × Nat)} {ops : Array Oper} {rest : List Oper} {o : Oper} {a : Act} {Q : Exit → Act → World → Prop} (hgd : o.guard = none) (s x : Operand)
    (ho : o.op = .call { callee := .builtin .append, args := #[s, x], argTypes := #[57, 57] }) (hs : a.eval s = v) (hown : OwnP w base v ps)
    (B c : Nat) (y z : Nat) (hx : a.eval x = .slice (some ⟨B, 0, none⟩) 1 c) (hB : Blk w B 59 #[.int .i64 (y : Nat), .int .i64 (z : Nat)]) (hlen : ps.length ≤ 1000000000) (hbase : base ≤ w.heap.size)
    (h : ∀ (v' : Value) (w' : World), OwnP w' base v' (ps ++ [(y, z)]) → w.grownBy w' v.ownBlock → wpList Try.prog ops Q rest (a.put o.dst v') w') : wpList Try.prog ops Q (o :: rest) a w := by
  obtain ⟨i0, hi0, hz0, hz1, hz2⟩ := info_parts infoPair
  refine wpList_append_lies w hgd s x 57 ho base 59 i0 (.agg #[.int .i64 0, .int .i64 0]) 2 16 Try.underlying57 hi0 hz0 hz1 hz2 rfl (by decide) v ps.length (pairsV ps) hs hown ⟨B, 0, none⟩ 1 c [.int .i64 (y : Nat), .int .i64 (z : Nat)] hx rfl
    (World.news_of_block hB) (by simp [Value.oneCell']) (by decide) (by simp only [maxLen]; omega) (by omega) hbase _ rfl ?_
  intro g cap w' hown' hgr hat hlt
  refine h _ w' ?_ hgr
  unfold OwnP
  have e : pairsV (ps ++ [(y, z)]) = pairsV ps ++ [.int .i64 (y : Nat), .int .i64 (z : Nat)] := by simp [pairsV]
  rw [e, List.length_append]
  exact hown'
def RetP (ps : List (Nat × Nat)) (w : World) (e : Ending) (w' : World) : Prop := ∃ v, e = .returned v ∧ OwnP w' w.heap.size v ps ∧ Below w.heap.size w w'
set_option maxRecDepth 100000 in
set_option maxHeartbeats 4000000 in
theorem letter_any {k : Nat} (hk : k < 4) (w : World) : Calls Try.prog 42 #[.int .i64 k] w fun e w' => e = .returned (.string ⟨#[(97 + k).toUInt8]⟩) ∧ w' = w := by
  match k, hk with
  | 0, _ =>
    go_enter Try.func42, Try.ntmps42
    go_wp2_with (fail)
    go_ret
    exact ⟨rfl, rfl⟩
  | 1, _ =>
    go_enter Try.func42, Try.ntmps42
    go_wp2_with (fail)
    go_ret
    exact ⟨rfl, rfl⟩
  | 2, _ =>
    go_enter Try.func42, Try.ntmps42
    go_wp2_with (fail)
    go_ret
    exact ⟨rfl, rfl⟩
  | 3, _ =>
    go_enter Try.func42, Try.ntmps42
    go_wp2_with (fail)
    go_ret
    exact ⟨rfl, rfl⟩
set_option maxRecDepth 100000 in
set_option maxHeartbeats 4000000 in
theorem twice_any (s : ByteArray) (hs : s.size ≤ 1000) (w : World) : Calls Try.prog 41 #[.string s] w (RetP (twL (bts s)) w) := by
  obtain ⟨l, hl⟩ : ∃ l, bts s = l := ⟨_, rfl⟩
  have hlH := Lib.hid hl
  have hln := Lib.hid (show l.length = s.size by rw [← hl, bts_len])
  rw [hl]
  clear hl
  go_enter Try.func41, Try.ntmps41
  go_wp2_with (fail)
  go_loopw [3, 4] (fun o v wr => ∃ k m : Nat, m + 1 = k ∧ 2 * m ≤ s.size ∧ v = .int .i64 k ∧ OwnP wr w.heap.size o (twN l m) ∧ Below w.heap.size w wr) (fun _ v _ => s.size + 1 - (intOf v).toNat)
  case atStart => exact ⟨1, 0, rfl, by omega, rfl, OwnP.nil _ _, Below.refl _ _⟩
  case round =>
    obtain ⟨k, m, hmk, hm2, rfl, ho, hbe⟩ := hrel
    obtain ⟨d, hd⟩ : ∃ d, 2 * k = d := ⟨_, rfl⟩
    have hdi : 2 * (k : Int) = d := by omega
    by_cases hlt : d ≤ s.size
    · have hlti : (d : Int) ≤ s.size := by omega
      have hL1 : (twN l m).length ≤ 1000000 := by
        have h1 := twN_len l m
        have h2 : m * (l.length + 1) ≤ 500 * 1001 := Nat.mul_le_mul (by omega) (by rw [hln.out]; omega)
        omega
      have hN := Lib.hid (show twN l k = twN l m ++ rowN l k (s.size + 1 - d) by rw [← hmk, twN_succ, hln.out, hmk, hd])
      obtain ⟨P, hP⟩ : ∃ P, twN l m = P := ⟨_, rfl⟩
      rw [hP] at ho hL1 hN
      clear hP
      go_wp2_with (fail)
      go_loopw [3, 5] (fun o v wr' => ∃ a : Nat, a + d ≤ s.size + 1 ∧ v = .int .i64 a ∧ OwnP wr' w.heap.size o (P ++ rowN l k a) ∧ Below w.heap.size w wr') (fun _ v _ => s.size + 1 - (intOf v).toNat)
      case atStart => exact ⟨0, by omega, rfl, by simpa [rowN] using ho, hbe⟩
      case round =>
        obtain ⟨a, had, rfl, ho, hbe⟩ := hrel
        obtain ⟨e, he⟩ : ∃ e, a + d = e := ⟨_, rfl⟩
        have hei : (a : Int) + d = e := by omega
        by_cases hlt2 : e ≤ s.size
        · have hlt2i : (e : Int) ≤ s.size := by omega
          obtain ⟨u, hu⟩ : ∃ u, a + k = u := ⟨_, rfl⟩
          have hui : (a : Int) + k = u := by omega
          have hau : (a : Int) ≤ u := by omega
          have hue : (u : Int) ≤ e := by omega
          have hus : (u : Int) ≤ s.size := by omega
          have hsq := sq_go s (a := a) (u := u) (e := e) (k := k) hu (by omega)
          rw [hlH.out] at hsq
          have hrl := rowN_len l k a
          have hPL : (P ++ rowN l k a).length ≤ 1000000000 := by rw [List.length_append]; omega
          have hN2 := Lib.hid (show P ++ rowN l k (a + 1) = (P ++ rowN l k a) ++ (if sqAt l a k then [(a, k)] else []) by rw [rowN_succ, List.append_assoc])
          obtain ⟨q, hq⟩ : ∃ q, sqAt l a k = q := ⟨_, rfl⟩
          rw [hq] at hsq hN2
          obtain ⟨PK, hPK⟩ : ∃ PK, P ++ rowN l k a = PK := ⟨_, rfl⟩
          rw [hPK] at hPL hN2 ho
          clear hq hPK hrl hu he hd
          cases q with
          | true =>
            rw [if_pos rfl] at hN2
            go_wp2_with (fail)
            have hw1 : IntKind.i64.wrap (u : Int) = u := IntWalk.i64_in _ (by omega)
            have hw2 : IntKind.i64.wrap (d : Int) = d := IntWalk.i64_in _ (by omega)
            have hw3 : IntKind.i64.wrap (e : Int) = e := IntWalk.i64_in _ (by omega)
            go_quiet (fail)
            clear hw1 hw2 hw3
            have hbq := below_drewN hbe nq
            have hoq := ho.drewN nq
            generalize wr.drewN nq = wq at hbq hoq ⊢
            go_wp2_with (first
              | (at_builtin
                 refine wpList_pushP rfl _ _ rfl rfl (hoq.none_ (World.grownBy_alloc wq _ none)) wq.heap.size 1 a k rfl (Blk.new wq _ _) hPL (by have := hbq.size; show _ ≤ (wq.heap.push _).size; simp; omega) ?_
                 intro v2 w2 ho2 hgr2
                 have hb2 := (hbq.alloc hbq.size (.cells #[.int .i64 (a : Nat), .int .i64 (k : Nat)] 59)).grown hgr2 (by have := hbq.size; show _ ≤ (wq.heap.push _).size; simp; omega) (fun g hg => hoq.ge hg)))
            go_roundw
            case rel => exact ⟨a + 1, by omega, by go_num, by rw [hN2.out]; exact ho2, hb2⟩
            case measure => simp only [intOf]; omega
          | false =>
            rw [if_neg (by decide), List.append_nil] at hN2
            go_wp2_with (fail)
            have hw1 : IntKind.i64.wrap (u : Int) = u := IntWalk.i64_in _ (by omega)
            have hw2 : IntKind.i64.wrap (d : Int) = d := IntWalk.i64_in _ (by omega)
            have hw3 : IntKind.i64.wrap (e : Int) = e := IntWalk.i64_in _ (by omega)
            go_quiet (fail)
            clear hw1 hw2 hw3
            have hbq := below_drewN hbe nq
            have hoq := ho.drewN nq
            generalize wr.drewN nq = wq at hbq hoq ⊢
            go_wp2_with (fail)
            go_roundw
            case rel => exact ⟨a + 1, by omega, by go_num, by rw [hN2.out]; exact hoq, hbq⟩
            case measure => simp only [intOf]; omega
        · have hlt2i : ¬ (e : Int) ≤ s.size := by omega
          have ha : s.size + 1 - d = a := by omega
          rw [ha] at hN
          go_wp2_with (fail)
          go_roundw
          case rel => exact ⟨k + 1, k, rfl, by omega, by go_num, by rw [hN.out]; exact ho, hbe⟩
          case measure => simp only [intOf]; omega
    · have hlti : ¬ (d : Int) ≤ s.size := by omega
      have hm : l.length / 2 = m := by rw [hln.out]; omega
      have hT := Lib.hid (show twL l = twN l m by rw [twL, hm])
      go_wp2_with (fail)
      go_ret
      rw [hT.out]
      exact ⟨_, rfl, ho, hbe⟩
end Go.Proofs.Ytdaaiockkbolbaa
