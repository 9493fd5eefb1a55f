/- branch's may, grown. -/
import Derived.Test.YthbkfhhnhiplkaaDoorBrD
import Derived.Deep.OwnRows
import Derived.Deep.RegionHeld3
import Derived.BigQuiet
namespace Go.Proofs.YthbkfhhnhiplkaaDoor
open Go.RowKit
namespace Br
open Bu (natI natI_at)
theorem has_q (s k : Nat) (hs : s < 65536) (hk : k ≤ 8) (w : World) : Calls Tryd.prog 57 #[.int .u16 (s : Int), .int .i64 (k : Int)] w fun e w' => e = .returned (.bool (s.testBit k)) ∧ ∃ q, w' = w.drewN q :=
  (has_any s k hs hk w).mono fun _ _ h => ⟨h.1, 0, h.2⟩
theorem all_val {n : Nat} (hn : n ≤ 9) : ((((2 ^ n - 1 : Nat) : Nat) : Int) != IntKind.u16.wrap (IntKind.u16.wrap (2 ^ n) - 1)) = false := by
  have h4 : 2 ^ n ≤ 2 ^ 9 := Nat.pow_le_pow_right (by omega) hn
  have h5 : 1 ≤ 2 ^ n := Nat.one_le_two_pow
  rw [show (2 : Int) ^ n = ((2 ^ n : Nat) : Int) by simp, wrap_u16 _ (by omega), show (((2 ^ n : Nat) : Int) - 1) = ((2 ^ n - 1 : Nat) : Int) by omega, wrap_u16 _ (by omega)]
  simp
set_option maxRecDepth 100000 in
set_option maxHeartbeats 1000000 in
theorem may_ok (gw n c a b : Nat) (hn : n ≤ 9) (ha : a < n) (hb : b < n) (hab : a ≠ b) (w : World) :
    Calls Tryd.prog 71 #[.slice (some ⟨gw, 0, none⟩) n c, .agg #[.int .i64 (a : Int), .int .i64 (b : Int)]] w fun e w' => e = .returned (.int .i64 0) ∧ Below w.heap.size w w' := by
  have cw := Lib.hid (fun (x : Nat) w' => within_any (x : Int) 0 ((n : Int) - 1) w')
  have cwa := Lib.hid (fun w' => cw.out a w')
  have cwb := Lib.hid (fun w' => cw.out b w')
  rw [decide_eq_true (by omega)] at cwa cwb
  have habi : ((a : Int) == b) = false := by simp; omega
  go_enter Tryd.func71, Tryd.ntmps71
  go_wp2_with (first
    | (with_reducible show wpList _ _ _ (⟨_, .box 37 (.tmp 1), _, _, _, _⟩ :: _) _ _
       refine wpList_box_blk rfl 37 _ rfl #[.int .i64 (a : Int), .int .i64 (b : Int)] rfl ?_
       intro w1 g hG hgr hge
       have hx0 : w1.cell? ⟨g, 0, none⟩ = some (.int .i64 (a : Int)) := hG.cell 0
       have hx1 : w1.cell? ⟨g, 1, none⟩ = some (.int .i64 (b : Int)) := hG.cell 1
       have hb1 := below_none (Below.refl w.heap.size w) hgr (Nat.le_refl _))
    | (go_at_call 19; (with_reducible refine (cwa.out _).mono ?_); rintro e wz ⟨rfl, hwz⟩; replace hwz := hwz.symm; subst hwz)
    | (go_at_call 19; (with_reducible refine (cwb.out _).mono ?_); rintro e wz ⟨rfl, hwz⟩; replace hwz := hwz.symm; subst hwz))
  go_ret
  exact ⟨rfl, hb1⟩
/-- ties as cells -/
def tArr : List (Nat × Nat) → List Value
  | [] => []
  | (a, b) :: l => .int .i64 (a : Int) :: .int .i64 (b : Int) :: tArr l
theorem tArr_at : ∀ (ts : List (Nat × Nat)) (i a b : Nat), ts[i]? = some (a, b) → (tArr ts)[i * 2]? = some (.int .i64 (a : Int)) ∧ (tArr ts)[i * 2 + 1]? = some (.int .i64 (b : Int)) := by
  intro ts
  induction ts with
  | nil => intro i a b h; simp at h
  | cons p l ih =>
    obtain ⟨x, y⟩ := p
    intro i a b h
    cases i with
    | zero =>
      simp at h
      obtain ⟨rfl, rfl⟩ := h
      exact ⟨rfl, rfl⟩
    | succ i =>
      have h2 := ih i a b (by simpa using h)
      rw [show (i + 1) * 2 = i * 2 + 1 + 1 by omega, tArr]
      simpa using h2
/-- the wood of the first ties -/
def woodI (n : Nat) : List (Nat × Nat) → List Nat
  | [] => List.replicate n 0
  | (a, b) :: l => tieW (woodI n l) a b
def woodT (n : Nat) (ts : List (Nat × Nat)) (i : Nat) : List Nat := woodI n (ts.take i).reverse
theorem wood_step {n i a b : Nat} {ts : List (Nat × Nat)} (h : ts[i]? = some (a, b)) : woodT n ts (i + 1) = tieW (woodT n ts i) a b := by
  unfold woodT
  rw [List.take_add_one, h, Option.toList_some, List.reverse_append]
  rfl
theorem woodI_len (n : Nat) (ts : List (Nat × Nat)) : (woodI n ts).length = n := by
  induction ts with
  | nil => simp [woodI]
  | cons p l ih =>
    obtain ⟨a, b⟩ := p
    rw [woodI, tieW, end_len, end_len, ih]
theorem end_small2 {ws : List Nat} {a b m : Nat} (h : ∀ x ∈ ws, x < 2 ^ m) (ha : a < ws.length) (hb : b < m) : ∀ x ∈ endW ws a b, x < 2 ^ m := by
  intro x hx
  rcases List.mem_or_eq_of_mem_set hx with hx | rfl
  · exact h x hx
  · exact Nat.xor_lt_two_pow (h _ (List.mem_of_getElem? (getD_at ha))) (Nat.pow_lt_pow_right (by omega) hb)
structure Tree (n : Nat) (ts : List (Nat × Nat)) : Prop where
  n1 : 1 ≤ n
  n9 : n ≤ 9
  len : ts.length < n
  tie : ∀ i a b, ts[i]? = some (a, b) → a < n ∧ b < n ∧ a ≠ b ∧ ((woodT n ts i).getD a 0).testBit b = false
  whole : fromW (woodT n ts ts.length) 0 = 2 ^ n - 1
theorem wood_small {n : Nat} {ts : List (Nat × Nat)} (h : Tree n ts) (i : Nat) (hi : i ≤ ts.length) : ∀ x ∈ woodT n ts i, x < 2 ^ n := by
  induction i with
  | zero =>
    intro x hx
    have : x = 0 := List.eq_of_mem_replicate (show x ∈ List.replicate n 0 from hx)
    rw [this]
    exact Nat.two_pow_pos n
  | succ i ih =>
    obtain ⟨⟨a, b⟩, hp⟩ : ∃ p, ts[i]? = some p := ⟨_, List.getElem?_eq_getElem (by omega)⟩
    obtain ⟨h1, h2, _⟩ := h.tie i a b hp
    rw [wood_step hp]
    have hl : (woodT n ts i).length = n := woodI_len _ _
    exact end_small2 (end_small2 (ih (by omega)) (by omega) h2) (by rw [end_len]; omega) h1
theorem info_u16 : (Tryd.prog.info? 89).map (fun i => (i.zero, i.size, i.bytes)) = some (some (.int .u16 0), 1, 2) := by kernel_rfl
theorem uArr_made (n : Nat) : madeCells #[Value.int .u16 0] n = uArr (List.replicate n 0) := by
  apply Array.toList_inj.1
  rw [toList_madeCells_one]
  simp [uArr]
theorem zero_two (w : World) : (zeroValue 37).run Tryd.prog w = .ok (.agg #[.int .i64 0, .int .i64 0]) w := by
  rw [Tryd.zeroValue37]
set_option maxRecDepth 100000 in
set_option maxHeartbeats 2000000 in
theorem grown_ok (n : Nat) (ts : List (Nat × Nat)) (hT : Tree n ts) (gt cc : Nat) (w : World) (hW : Blk w gt 37 (tArr ts).toArray) :
    Calls Tryd.prog 56 #[.agg #[.int .i64 (n : Int), .slice (some ⟨gt, 0, none⟩) ts.length cc]] w fun e w' => ∃ gw, e = .returned (.tuple #[.slice (some ⟨gw, 0, none⟩) n n, .int .i64 0]) ∧ w.heap.size ≤ gw ∧ Blk w' gw 89 (uArr (woodT n ts ts.length)) ∧ Below w.heap.size w w' := by
  have h1 := hT.n1
  have h9 := hT.n9
  have hln := hT.len
  have hTH := Lib.hid hT
  have cw := Lib.hid (fun w' => within_any (n : Int) 1 9 w')
  rw [decide_eq_true (by omega)] at cw
  obtain ⟨m, hm⟩ : ∃ m, ts.length = m := ⟨_, rfl⟩
  have hmH := Lib.hid hm
  rw [hm] at hln ⊢
  obtain ⟨WS, hWS⟩ : ∃ x, woodT n ts m = x := ⟨_, rfl⟩
  rw [hWS]
  have hWSH := Lib.hid hWS
  have hmk := run_make_row' (P := Tryd.prog) 97 89 (.int .u16 0) 2 Tryd.underlying97 info_u16 rfl .i64 .i64 n (by omega) (by omega)
  have hWgt := Lib.hid (fun w' (hb : Below w.heap.size w w') => hW.below hb hW.lt)
  clear hT hm hWS hW
  go_enter Tryd.func56, Tryd.ntmps56
  go_wp2_with (first
    | (with_reducible show wpList _ _ _ (⟨_, .box 57 (.tmp 0), _, _, _, _⟩ :: _) _ _
       refine wpList_box_blk rfl 57 _ rfl #[.int .i64 (n : Int), .slice (some ⟨gt, 0, none⟩) m cc] rfl ?_
       intro w1 g1 hG hgr hge
       have hx0 : w1.cell? ⟨g1, 0, none⟩ = some (.int .i64 (n : Int)) := hG.cell 0
       have hx1 : w1.cell? ⟨g1, 1, none⟩ = some (.slice (some ⟨gt, 0, none⟩) m cc) := hG.cell 1
       have hb1 := below_none (Below.refl w.heap.size w) hgr (Nat.le_refl _)
       have hgl := hG.lt
       have hx1A : (w1.alloc (.cells (madeCells #[.int .u16 0] n) 89)).cell? ⟨g1, 1, none⟩ = some (.slice (some ⟨gt, 0, none⟩) m cc) := by rw [World.cell?_alloc_lt _ _ _ hgl]; exact hx1)
    | (go_at_call 19; (with_reducible refine (cw.out _).mono ?_); rintro e wz ⟨rfl, hwz⟩; replace hwz := hwz.symm; subst hwz))
  have hB0 := Blk.new w1 89 (madeCells #[.int .u16 0] n)
  rw [uArr_made] at hB0 ⊢
  have hG0 := hG.alloc (.cells (uArr (List.replicate n 0)) 89)
  have hb0 := hb1.alloc hb1.size (.cells (uArr (List.replicate n 0)) 89)
  have hge0 := hb1.size
  have hW0 : Blk (w1.alloc (.cells (uArr (List.replicate n 0)) 89)) w1.heap.size 89 (uArr (woodT n ts 0)) := hB0
  clear hB0 hmk hG hgr hx0 hx1 hx1A hb1
  generalize w1.alloc (.cells (uArr (List.replicate n 0)) 89) = w2 at *
  obtain ⟨gw, hgw⟩ : ∃ q, w1.heap.size = q := ⟨_, rfl⟩
  rw [hgw] at hW0 hge0 hgl ⊢
  clear hgw w1
  go_loopw [18] (fun v wr => ∃ i : Nat, i ≤ m ∧ v = .int .i64 i ∧ Blk wr gw 89 (uArr (woodT n ts i)) ∧ Blk wr g1 57 #[.int .i64 (n : Int), .slice (some ⟨gt, 0, none⟩) m cc] ∧ Below w.heap.size w wr) (fun v _ => m - (intOf v).toNat)
  case atStart => exact ⟨0, by omega, rfl, hW0, hG0, hb0⟩
  case round =>
    clear hW0 hG0 hb0
    obtain ⟨i, hi, rfl, hW, hG, hb⟩ := hrel
    obtain ⟨wa, rfl⟩ : ∃ x, x = wr := ⟨wr, rfl⟩
    by_cases hlt : i < m
    · have hlti : (i : Int) < m := by omega
      obtain ⟨⟨a, b⟩, hp⟩ : ∃ p, ts[i]? = some p := ⟨_, List.getElem?_eq_getElem (by rw [hmH.out]; exact hlt)⟩
      obtain ⟨ha, hb', hab, hbit⟩ := hTH.out.tie i a b hp
      have hcs := tArr_at ts i a b hp
      have hWt := hWgt.out wa hb
      have hc0 : wa.cell? ⟨gt, i * 2, none⟩ = some (.int .i64 (a : Int)) := by rw [hWt.cell]; simpa using hcs.1
      have hc1 : wa.cell? ⟨gt, i * 2 + 1, none⟩ = some (.int .i64 (b : Int)) := by rw [hWt.cell]; simpa using hcs.2
      have hst := wood_step (n := n) hp
      have hws := wood_small hTH.out i (by rw [hmH.out]; omega)
      have hwl : (woodT n ts i).length = n := woodI_len _ _
      clear hcs hp
      obtain ⟨xa, hxa⟩ : ∃ x, (woodT n ts i).getD a 0 = x := ⟨_, rfl⟩
      rw [hxa] at hbit
      have hx5 : xa < 512 := by
        have h3 := hws _ (List.mem_of_getElem? (getD_at (ws := woodT n ts i) (a := a) (by omega)))
        have h4 : 2 ^ n ≤ 2 ^ 9 := Nat.pow_le_pow_right (by omega) h9
        rw [hxa] at h3
        omega
      have hws5 : ∀ x ∈ woodT n ts i, x < 512 := fun x hx => by
        have h3 := hws x hx
        have h4 : 2 ^ n ≤ 2 ^ 9 := Nat.pow_le_pow_right (by omega) h9
        omega
      have hws5H := Lib.hid hws5
      have hwlH := Lib.hid hwl
      have hstH := Lib.hid hst
      have hai : (a : Int) < n := by omega
      have ha0 : (0 : Int) ≤ a := by omega
      have hcX := fun w' (h : Blk w' gw 89 (uArr (woodT n ts i))) => (show w'.cell? ⟨gw, a, none⟩ = some (.int .u16 (xa : Int)) by rw [h.cell, uArr_at, getD_at (by omega), hxa]; rfl)
      have hcXH := Lib.hid hcX
      clear hst hws hwl hws5 hxa hcX
      go_wp2_with (first
        | (go_at_call 71; (with_reducible refine (may_ok gw n n a b h9 ha hb' hab _).mono ?_); rintro e w3 ⟨rfl, hb3⟩
           have hX3 := (Blk.new wa 37 #[.int .i64 (a : Int), .int .i64 (b : Int)]).callee hb3
           have hW3 := (hW.alloc (.cells #[.int .i64 (a : Int), .int .i64 (b : Int)] 37)).callee hb3
           have hG3 := (hG.alloc (.cells #[.int .i64 (a : Int), .int .i64 (b : Int)] 37)).callee hb3
           have hbA := hb.alloc hb.size (.cells #[.int .i64 (a : Int), .int .i64 (b : Int)] 37)
           have hbe3 := hbA.trans (hb3.mono hbA.size)
           clear hbA hb3 hW hG hb hc0 hc1 hWt
           have hy0 : w3.cell? ⟨wa.heap.size, 0, none⟩ = some (.int .i64 (a : Int)) := hX3.cell 0
           have hy1 : w3.cell? ⟨wa.heap.size, 1, none⟩ = some (.int .i64 (b : Int)) := hX3.cell 1
           have hyw := hcXH.out w3 hW3))
      have cH := Lib.hid (fun q => has_q xa b (by omega) (by omega) (w3.drewN q))
      rw [hbit] at cH
      clear hbit
      go_quiet (first
        | (with_reducible exact Calls.quiet_of (cH.out _)))
      have hX4 := hX3.drewN nq
      have hW4 := hW3.drewN nq
      have hG4 := hG3.drewN nq
      have hbe4 := below_drewN hbe3 nq
      clear hX3 hW3 hG3 hbe3 hy0 hy1 hyw cH
      generalize w3.drewN nq = w4 at *
      have hy0 : w4.cell? ⟨wa.heap.size, 0, none⟩ = some (.int .i64 (a : Int)) := hX4.cell 0
      have hy1 : w4.cell? ⟨wa.heap.size, 1, none⟩ = some (.int .i64 (b : Int)) := hX4.cell 1
      go_wp2_with (first
        | (go_at_call 72; (with_reducible refine (tie_ok gw n n a b _ hwlH.out h9 ha hb' hws5H.out _ hW4).mono ?_); rintro e w5 ⟨rfl, hW5, hF5⟩
           have hne : g1 ≠ gw := hG4.ne_ hW4 (by decide)
           have hG5 := (hF5.block g1 hG4.lt hne).trans hG4
           have hb5 := hF5.below hbe4 hbe4.size (fun j hj => by rw [hj]; exact hge0)
           rw [← hstH.out] at hW5))
      go_roundw
      case rel => exact ⟨i + 1, by omega, by go_num, hW5, hG5, hb5⟩
      case measure => simp only [intOf]; omega
    · have hlti : ¬ (i : Int) < m := by omega
      obtain rfl : i = m := by omega
      have hz0 : wa.cell? ⟨g1, 0, none⟩ = some (.int .i64 (n : Int)) := hG.cell 0
      have hz1 : wa.cell? ⟨g1, 1, none⟩ = some (.slice (some ⟨gt, 0, none⟩) i cc) := hG.cell 1
      have hmn : ¬ (n : Int) ≤ i := by omega
      have hmnn : decide (n ≤ i) = false := decide_eq_false (by omega)
      go_wp2_with (fail)
      have hwh := hTH.out.whole
      rw [hmH.out] at hwh
      have hmn2 := all_val h9
      obtain ⟨M1, hM1⟩ : ∃ q, 2 ^ n - 1 = q := ⟨_, rfl⟩
      rw [hM1] at hwh hmn2
      have cf := Lib.hid (fun w' (hW : Blk w' gw 89 (uArr (woodT n ts i))) => from_ok gw n n 0 (woodT n ts i) (woodI_len _ _) h9 h1 (wood_small hTH.out i (by rw [hmH.out]; omega)) w' hW)
      rw [hwh, Int.natCast_zero] at cf
      have hWSe := hWSH.out
      rw [hWSe] at hW
      rw [hWSe] at cf
      clear hwh hM1 hz1 hmn hmnn
      go_region_held3 (fun w' => w'.cell? ⟨g1, 0, none⟩ = some (.int .i64 (n : Int)))
        (first | assumption | exact hz0)
        (first
          | (go_at_call 73; (with_reducible refine (cf.out wa.drew hW.drew).mono ?_); rintro e w6 ⟨rfl, hb6⟩
             have hS6 : w6.cell? ⟨g1, 0, none⟩ = some (.int .i64 (n : Int)) := (hG.drew.callee hb6).cell 0))
      have hW6 := hW.drew.callee hb6
      have hbe6 := hb.drew.trans (hb6.mono hb.size)
      clear hW hG hb hz0
      go_wp2_with (fail)
      go_ret2
      exact ⟨gw, rfl, hge0, hW6, hbe6⟩
end Br
end Go.Proofs.YthbkfhhnhiplkaaDoor
