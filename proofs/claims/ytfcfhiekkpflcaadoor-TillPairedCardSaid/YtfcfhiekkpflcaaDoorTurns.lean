/- Turns. -/
import Derived.Test.YtfcfhiekkpflcaaDoorNumber
namespace Go.Proofs.YtfcfhiekkpflcaaDoor
open Go.RowKit
/-- coins ahead of a place -/
def befT (L : List Int) (k : Nat) : Int := if k = 0 then 0 else L.getD (k - 1) 0
def turnP (L : List Int) (n : Nat) (keep : Int) (k : Nat) : Bool := decide (keep ≤ Lib.minOf ((L.drop k).take n) - befT L k)
def turnN (L : List Int) (n : Nat) (keep : Int) (m : Nat) : List Int := ((List.range m).filter (turnP L n keep)).map fun k : Nat => (k : Int)
def turnL (l : Word) (keep : Int) : List Int := if opT l keep = 0 then turnN (stepsT 0 (l ++ l)) l.length keep l.length else []
theorem turnN_succ (L : List Int) (n : Nat) (keep : Int) (m : Nat) : turnN L n keep (m + 1) = turnN L n keep m ++ (if turnP L n keep m then [(m : Int)] else []) := by
  unfold turnN
  rw [List.range_succ, List.filter_append, List.map_append]
  congr 1
  by_cases h : turnP L n keep m = true
  · simp [h]
  · simp [h]
theorem turnN_len (L : List Int) (n : Nat) (keep : Int) (m : Nat) : (turnN L n keep m).length ≤ m := by
  unfold turnN
  rw [List.length_map]
  exact Nat.le_trans (List.length_filter_le _ _) (by simp)
theorem minOf_bound {l : List Int} {a b : Int} (hne : 0 < l.length) (h : ∀ x ∈ l, a ≤ x ∧ x ≤ b) : a ≤ Lib.minOf l ∧ Lib.minOf l ≤ b := by
  have key : ∀ (m : List Int) (z : Int), (a ≤ z ∧ z ≤ b) → (∀ x ∈ m, a ≤ x ∧ x ≤ b) → a ≤ m.foldl min z ∧ m.foldl min z ≤ b := by
    intro m
    induction m with
    | nil => intro z hz _; exact hz
    | cons y m ih =>
      intro z hz hm
      have hy := hm y (by simp)
      exact ih (min z y) (by omega) (fun x hx => hm x (by simp [hx]))
  cases l with
  | nil => simp at hne
  | cons y l => exact key (y :: l) y (h y (by simp)) h
set_option maxRecDepth 100000 in
set_option maxHeartbeats 4000000 in
theorem Turns_any (s : ByteArray) (b : Int) (w : World) : Calls Tryd.prog 31 #[.string s, .int .i64 b] w (RetIE (turnL (bts s) b) (opT (bts s) b) w) := by
  obtain ⟨k, hk⟩ : ∃ k, opT (bts s) b = k := ⟨_, rfl⟩
  have hkH := Lib.hid hk
  by_cases h0 : k = 0
  · subst h0
    obtain ⟨h1, h2, h3⟩ := opT_zero hk
    obtain ⟨h4, h5⟩ := chkT_zero h1
    rw [bts_len] at h4
    have hss : (s ++ s).size = s.size + s.size := by rw [← bts_len, bts_append, List.length_append, bts_len]
    have hok2 : okT (bts (s ++ s)) = true := by rw [bts_append]; unfold okT at h5 ⊢; rw [List.all_append, h5]; rfl
    have hst := Lib.hid (fun w' => steps_any (s ++ s) 0 (by omega) hok2 (by omega) w')
    obtain ⟨L, hL⟩ : ∃ L, stepsT 0 (bts (s ++ s)) = L := ⟨_, rfl⟩
    have hLl : L.length = s.size + s.size := by rw [← hL, steps_len, bts_len, hss]
    have hLb := Lib.hid (show ∀ x ∈ L, -32 ≤ x ∧ x ≤ 32 by intro x hx; rw [← hL] at hx; have := steps_bound hx; rw [bts_len] at this; omega)
    rw [hL] at hst
    have hR := Lib.hid (show turnL (bts s) b = turnN L s.size b s.size by unfold turnL; rw [if_pos hk, ← bts_append, hL, bts_len])
    have hsi : (s.size : Int) ≤ 8388608 := by omega
    have hadd : ∀ w', (Op.stringOp .add s s).run Tryd.prog w' = .ok (.string (s ++ s)) w' := fun w' => run_string_add w' s s hsi hsi
    have hokH := Lib.hid h5
    rw [hR.out, hk]
    clear hk h1 h5 hss hok2 hL
    go_enter Tryd.func31, Tryd.ntmps31
    go_wp2_with (first
      | (go_at_call 47; (with_reducible refine (opened_any _ _ _).mono ?_); rintro e w1 ⟨rfl, hb1⟩; rw [hkH.out])
      | (go_at_call 49; (with_reducible refine (hst.out _).mono ?_); rintro e w2 ⟨v, rfl, ho, hb2⟩
         replace hb2 := hb1.trans (hb2.mono hb1.size)))
    go_loopw [8] (fun o wr => ∃ pos : Nat, pos ≤ s.size ∧ OwnI wr w2.heap.size o (turnN L s.size b pos) ∧ wr.heap[w2.heap.size]? = some (.stringIter s pos) ∧ Below w2.heap.size w2 wr) (fun _ wr => s.size - wr.iterPos w2.heap.size)
    case atStart => exact ⟨0, by omega, OwnI.nil _ _, by first | exact World.iter_heap w2 s 0 | simp, (Below.refl _ _).alloc (Nat.le_refl _) _⟩
    case round =>
      obtain ⟨pos, hpos, ho8, hit, hbe⟩ := hrel
      by_cases hp : pos < s.size
      · obtain ⟨y, wn, hy, hitn, hgn, hyy⟩ := iter_cn hokH.out hit hp
        have hben := below_some hbe hgn hbe.size (Nat.le_refl _)
        have hon := ho8.some_ hgn (ho8.ne_iter hit)
        obtain ⟨g, c, hv, hLc, hgb, hgl, hcell⟩ := ho.full (by omega)
        subst hv
        have hcelln : ∀ j, j < L.length → wn.cell? ⟨g, j, none⟩ = some (.int .i64 (L.getD j 0)) := fun j hj => (hben.cell (p := ⟨g, j, none⟩) hgl).trans (hcell j hj)
        rw [hLl]
        obtain ⟨e, he⟩ : ∃ e : Nat, (pos : Int) + s.size = e := ⟨pos + s.size, by omega⟩
        have hel : (e : Int) ≤ c := by omega
        have hpe : (pos : Int) ≤ e := by omega
        have hpl : (turnN L s.size b pos).length ≤ 1000000000 := by have := turnN_len L s.size b pos; omega
        have hN := Lib.hid (turnN_succ L s.size b pos)
        have hep : e - pos = s.size := by omega
        have hmin := Lib.hid (Tryd.slices_Min_int g pos (e - pos) (c - pos) (L.drop pos) wn (by omega) (by rw [List.length_drop]; omega) (by omega) (fun j hj => by
          rw [List.length_drop] at hj
          rw [hcelln (pos + j) (by omega), List.getD, List.getD, List.getElem?_drop]))
        obtain ⟨m, hm⟩ : ∃ m, Lib.minOf ((L.drop pos).take s.size) = m := ⟨_, rfl⟩
        have hmb : -32 ≤ m ∧ m ≤ 32 := by
          rw [← hm]
          exact minOf_bound (by rw [List.length_take, List.length_drop]; omega) (fun x hx => hLb.out x (List.mem_of_mem_drop (List.mem_of_mem_take hx)))
        obtain ⟨hma, hmb⟩ := hmb
        obtain ⟨df, hd⟩ : ∃ df, m - befT L pos = df := ⟨_, rfl⟩
        obtain ⟨q, hq⟩ : ∃ q, decide (b ≤ df) = q := ⟨_, rfl⟩
        have hqe : turnP L s.size b pos = q := by unfold turnP; rw [hm, hd, hq]
        rw [hqe] at hN
        rw [show (L.drop pos).take (e - pos) = (L.drop pos).take s.size by rw [hep], hm] at hmin
        clear hep
        have hnx : ∃ z : Int, ∀ ty, (Instr.next (.pointer (some ⟨w2.heap.size, 0, none⟩)) true ty).run Tryd.prog wr = .ok (.tuple #[.bool true, .int .i64 pos, .int .i32 z]) wn := by
          rcases hyy with ⟨_, h⟩ | ⟨_, h⟩
          · exact ⟨99, h⟩
          · exact ⟨110, h⟩
        obtain ⟨z, hnx⟩ := hnx
        clear hyy hy hqe hm
        by_cases hz : pos = 0
        · have hpi : ¬ (0 : Int) < pos := by omega
          have hbf : befT L pos = 0 := by unfold befT; rw [if_pos hz]
          obtain ⟨bf, hbfe⟩ : ∃ bf : Int, bf = 0 := ⟨0, rfl⟩
          have hdf : m - 0 = df := by rw [← hd, hbf]
          clear hd hbf hz
          cases q with
          | true =>
            have hqi : b ≤ df := by simpa using hq
            clear hq
            rw [if_pos rfl] at hN
            go_wp2_with (first
              | (go_at_call 65; (with_reducible refine (hmin.out).mono ?_); rintro e' wz ⟨rfl, hwz⟩; replace hwz := hwz.symm; subst hwz)
              | (at_builtin
                 refine wpList_push rfl _ _ rfl rfl (hon.none_ (World.grownBy_alloc wn _ none)) wn.heap.size 1 (pos : Int) rfl (Blk.new wn _ _) hpl (by have := hben.size; show _ ≤ (wn.heap.push _).size; simp; omega) ?_
                 intro g6 cap6 w6 ho6 hgr6 _ _
                 have hb6 := (hben.alloc hben.size (.cells #[.int .i64 (pos : Int)] 3)).grown hgr6 (by have := hben.size; show _ ≤ (wn.heap.push _).size; simp; omega) (fun g hg => hon.ge hg)
                 have hit6 := iter_stay (iter_stay hitn (World.grownBy_alloc wn (.cells #[.int .i64 (pos : Int)] 3) none) (by simp)) hgr6 (fun e => hon.ne_iter hitn e.symm)))
            go_roundw
            case rel => exact ⟨pos + 1, by omega, by rw [hN.out]; simpa [OwnI] using ho6, hit6, hb6⟩
            case measure => simp only [World.iterPos, hit, hit6]; omega
          | false =>
            have hqi : decide (b ≤ df) = false := hq
            clear hq
            rw [if_neg (by decide), List.append_nil] at hN
            go_wp2_with (first
              | (go_at_call 65; (with_reducible refine (hmin.out).mono ?_); rintro e' wz ⟨rfl, hwz⟩; replace hwz := hwz.symm; subst hwz)
)
            go_roundw
            case rel => exact ⟨pos + 1, by omega, by rw [hN.out]; exact hon, hitn, hben⟩
            case measure => simp only [World.iterPos, hit, hitn]; omega
        · have hpi : (0 : Int) < pos := by omega
          obtain ⟨p1, hp1⟩ : ∃ p1 : Nat, (pos : Int) - 1 = p1 := ⟨pos - 1, by omega⟩
          have hbf : befT L pos = L.getD p1 0 := by unfold befT; rw [if_neg hz, show pos - 1 = p1 by omega]
          obtain ⟨bf, hbfe⟩ : ∃ bf, L.getD p1 0 = bf := ⟨_, rfl⟩
          have hcp := hcelln p1 (by omega)
          rw [hbfe] at hcp hbf
          have hp1l : (p1 : Int) < (L.length : Nat) := by omega
          rw [hLl] at hp1l
          have hbfb := hLb.out bf (by rw [← hbfe, List.getD, List.getElem?_eq_getElem (show p1 < L.length by omega)]; exact List.getElem_mem _)
          have hdf : m - bf = df := by rw [← hd, hbf]
          clear hd hbf hz
          cases q with
          | true =>
            have hqi : b ≤ df := by simpa using hq
            clear hq
            rw [if_pos rfl] at hN
            go_wp2_with (first
              | (go_at_call 65; (with_reducible refine (hmin.out).mono ?_); rintro e' wz ⟨rfl, hwz⟩; replace hwz := hwz.symm; subst hwz)
              | (at_builtin
                 refine wpList_push rfl _ _ rfl rfl (hon.none_ (World.grownBy_alloc wn _ none)) wn.heap.size 1 (pos : Int) rfl (Blk.new wn _ _) hpl (by have := hben.size; show _ ≤ (wn.heap.push _).size; simp; omega) ?_
                 intro g6 cap6 w6 ho6 hgr6 _ _
                 have hb6 := (hben.alloc hben.size (.cells #[.int .i64 (pos : Int)] 3)).grown hgr6 (by have := hben.size; show _ ≤ (wn.heap.push _).size; simp; omega) (fun g hg => hon.ge hg)
                 have hit6 := iter_stay (iter_stay hitn (World.grownBy_alloc wn (.cells #[.int .i64 (pos : Int)] 3) none) (by simp)) hgr6 (fun e => hon.ne_iter hitn e.symm)))
            go_roundw
            case rel => exact ⟨pos + 1, by omega, by rw [hN.out]; simpa [OwnI] using ho6, hit6, hb6⟩
            case measure => simp only [World.iterPos, hit, hit6]; omega
          | false =>
            have hqi : decide (b ≤ df) = false := hq
            clear hq
            rw [if_neg (by decide), List.append_nil] at hN
            go_wp2_with (first
              | (go_at_call 65; (with_reducible refine (hmin.out).mono ?_); rintro e' wz ⟨rfl, hwz⟩; replace hwz := hwz.symm; subst hwz)
)
            go_roundw
            case rel => exact ⟨pos + 1, by omega, by rw [hN.out]; exact hon, hitn, hben⟩
            case measure => simp only [World.iterPos, hit, hitn]; omega
      · have hnx := iter_end hit hp
        have hpe : pos = s.size := by omega
        rw [hpe] at ho8
        go_wp2_with (fail)
        go_ret2
        exact ⟨_, rfl, ho8.rebase hb2.size, hb2.trans (hbe.mono hb2.size)⟩
  · have hE := Lib.hid (show turnL (bts s) b = [] by unfold turnL; rw [hk, if_neg h0])
    have hk0 : (k != 0) = true := by simp [h0]
    rw [hE.out, hk]
    clear hk
    go_enter Tryd.func31, Tryd.ntmps31
    go_wp2_with (first
      | (go_at_call 47; (with_reducible refine (opened_any _ _ _).mono ?_); rintro e w1 ⟨rfl, hb1⟩; rw [hkH.out]))
    go_ret2
    exact ⟨_, rfl, OwnI.nil _ _, hb1⟩
end Go.Proofs.YtfcfhiekkpflcaaDoor
