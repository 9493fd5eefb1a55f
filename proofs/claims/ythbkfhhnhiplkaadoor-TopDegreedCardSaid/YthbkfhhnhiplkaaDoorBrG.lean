/- branch's list of a tree. -/
import Derived.Test.YthbkfhhnhiplkaaDoorBrF
import Derived.Test.YthbkfhhnhiplkaaDoorBrE
import Derived.Test.YthbkfhhnhiplkaaDoorBuN
namespace Go.Proofs.YthbkfhhnhiplkaaDoor
open Go.RowKit
namespace Br
open Bu (natI natI_at)
def kOf (ws : List Nat) : Nat := ws.findIdx leafB
def firstB (s : Nat) : Nat := ((List.range 9).find? fun k => s.testBit k).getD 0
def toOf (ws : List Nat) : Nat := firstB (ws.getD (kOf ws) 0)
def pruW (ws : List Nat) : Nat → List Nat
  | 0 => ws
  | i + 1 => tieW (pruW ws i) (kOf (pruW ws i)) (toOf (pruW ws i))
def pruL (ws : List Nat) : Nat → List Nat
  | 0 => []
  | i + 1 => pruL ws i ++ [toOf (pruW ws i)]
/-- one step can be made -/
structure OkS (n : Nat) (u : List Nat) : Prop where
  kn : kOf u < n
  tn : toOf u < n
  l1 : leafB (u.getD (kOf u) 0) = true
  l2 : ∀ j, j < kOf u → leafB (u.getD j 0) = false
  b1 : (u.getD (kOf u) 0).testBit (toOf u) = true
  b2 : ∀ j, j < toOf u → (u.getD (kOf u) 0).testBit j = false
  sm : ∀ x ∈ u, x < 512
theorem pru_len (ws : List Nat) (i : Nat) : (pruW ws i).length = ws.length := by
  induction i with
  | zero => rfl
  | succ i ih => rw [pruW, tieW, end_len, end_len, ih]
theorem own_mono' {w : World} {b b' : Nat} {v : Value} {xs : List Int} (h : OwnI w b v xs) (hle : b' ≤ b) : OwnI w b' v xs := by
  refine ⟨h.1, ?_⟩
  rcases h.2 with h0 | ⟨g, cap, cur, e, hb, r⟩
  · exact .inl h0
  · exact .inr ⟨g, cap, cur, e, Nat.le_trans hle hb, r⟩
set_option maxRecDepth 100000 in
set_option maxHeartbeats 2000000 in
theorem ask_ok (gw n c : Nat) (ws : List Nat) (hl : ws.length = n) (h2 : 2 ≤ n) (hn : n ≤ 9) (hP : ∀ i, i < n - 2 → OkS n (pruW ws i)) (w : World) (hW : Blk w gw 89 (uArr ws)) :
    Calls Tryd.prog 120 #[.agg #[], .slice (some ⟨gw, 0, none⟩) n c] w fun e w' => (∃ A cp, e = .returned (.iface 25 (.slice A (n - 2) cp)) ∧ RInts w' w'.heap.size A (n - 2) (natI (pruL ws (n - 2)))) ∧ Below w.heap.size w w' := by
  have cc := Lib.hid (fun w' (h : Blk w' gw 89 (uArr ws)) => clone_ok gw n c ws hl (by omega) hn w' h)
  have hPH := Lib.hid hP
  have hlH := Lib.hid hl
  obtain ⟨m, hm⟩ : ∃ m, n - 2 = m := ⟨_, rfl⟩
  have hmi : (n : Int) - 2 = m := by omega
  rw [hm] at hPH ⊢
  obtain ⟨R, hR⟩ : ∃ R, pruL ws m = R := ⟨_, rfl⟩
  rw [hR]
  have hRH := Lib.hid hR
  have hW1 := hW.alloc (.cells #[] 76)
  have hb1 := (Below.refl w.heap.size w).alloc (Nat.le_refl _) (.cells #[] 76)
  have hpl : ∀ i, (pruL ws i).length = i := fun i => by
    induction i with
    | zero => rfl
    | succ i ih => rw [pruL, List.length_append, ih]; rfl
  have hplH := Lib.hid hpl
  clear hP hl hR hm hpl
  go_enter Tryd.func120, Tryd.ntmps120
  go_wp2_with (first
    | (go_at_call 121; (with_reducible refine (cc.out _ hW1).mono ?_); rintro e w2 ⟨g, c2, ext, rfl, hge, hB2, hb2⟩
       have hbe2 := hb1.trans (hb2.mono hb1.size)
       have hgw : w.heap.size ≤ g := Nat.le_trans hb1.size hge
       clear hb2 hge))
  have hO3 := Bu.OwnI_empty w2
  have hO3' := own_mono' hO3 hbe2.size
  have hB3 := hB2.alloc (.cells #[] 3)
  have hbe3 := hbe2.alloc hbe2.size (.cells #[] 3)
  clear hO3 hB2 hbe2 hb1 hW1 cc
  go_loopw [5, 14] (fun o v wr => ∃ i : Nat, i ≤ m ∧ v = .int .i64 i ∧ OwnI wr w.heap.size o (natI (pruL ws i)) ∧ Blk wr g 89 (uArr (pruW ws i) ++ ext) ∧ Below w.heap.size w wr) (fun _ v _ => m - (intOf v).toNat)
  case atStart => exact ⟨0, by omega, rfl, hO3', hB3, hbe3⟩
  case round =>
    clear hO3' hB3 hbe3
    obtain ⟨i, hi, rfl, hO, hB, hb⟩ := hrel
    obtain ⟨wa, rfl⟩ : ∃ x, x = wr := ⟨wr, rfl⟩
    by_cases hlt : i < m
    · have hlti : (i : Int) < m := by omega
      have hok := Lib.hid (hPH.out i hlt)
      have hul : (pruW ws i).length = n := by rw [pru_len, hlH.out]
      have hpw : pruW ws (i + 1) = tieW (pruW ws i) (kOf (pruW ws i)) (toOf (pruW ws i)) := rfl
      have hpq : pruL ws (i + 1) = pruL ws i ++ [toOf (pruW ws i)] := rfl
      obtain ⟨u, hu⟩ : ∃ u, pruW ws i = u := ⟨_, rfl⟩
      rw [hu] at hok hul hpw hpq hB
      obtain ⟨k, hk⟩ : ∃ k, kOf u = k := ⟨_, rfl⟩
      obtain ⟨tt, hto⟩ : ∃ k, toOf u = k := ⟨_, rfl⟩
      rw [hk, hto] at hpw
      rw [hto] at hpq
      have hkn := hok.out.kn
      have htn := hok.out.tn
      have h1 := hok.out.l1
      have h3 := hok.out.l2
      have h4 := hok.out.b1
      have h5 := hok.out.b2
      rw [hk] at hkn h1 h3 h4 h5
      rw [hto] at htn h4 h5
      obtain ⟨x, hx⟩ : ∃ x, u.getD k 0 = x := ⟨_, rfl⟩
      have hx5 : x < 512 := by rw [← hx]; exact hok.out.sm _ (List.mem_of_getElem? (getD_at (by omega)))
      have hcx : ∀ w', Blk w' g 89 (uArr u ++ ext) → w'.cell? ⟨g, k, none⟩ = some (.int .u16 (x : Int)) := fun w' h => by rw [h.cell, uX_at (by omega), getD_at (by omega), hx]; rfl
      have hc := hcx wa hB
      have ci := Lib.hid (idx_ok g n c2 k u ext hul hn hkn hok.out.sm h1 h3 wa hB)
      rw [hx] at h4 h5
      have cf := Lib.hid (first_ok x tt (by omega) (by omega) h4 h5 wa)
      have ct := Lib.hid (tie_ext g n c2 k tt u ext hul hn hkn htn hok.out.sm wa hB)
      have hki : (k : Int) < n := by omega
      have hk0 : (0 : Int) ≤ k := by omega
      have hpwH := Lib.hid hpw
      have hpqH := Lib.hid hpq
      have hne := hO.blk_ne hB (by decide)
      have e1 : natI (pruL ws i) ++ [(tt : Int)] = natI (pruL ws (i + 1)) := by rw [hpq]; simp [natI]
      have e1H := Lib.hid e1
      have hlen : (natI (pruL ws i)).length ≤ 1000000000 := by
        have := hplH.out i
        simp only [natI, List.length_map]
        omega
      clear hpw hpq hk hto hx hcx h1 h3 h4 h5 hu hul e1
      go_wp2_with (first
        | (go_at_call 122; (with_reducible refine ci.out.mono ?_); rintro e wz ⟨rfl, hwz⟩; replace hwz := hwz.symm; subst hwz)
        | (go_at_call 124; (with_reducible refine cf.out.mono ?_); rintro e wz ⟨rfl, hwz⟩; replace hwz := hwz.symm; subst hwz)
        | (go_at_call 72; (with_reducible refine ct.out.mono ?_); rintro e w5 ⟨rfl, hB5, hF5⟩
           have hO5 : OwnI w5 w.heap.size u5 (natI (pruL ws i)) := hO.keep fun q hq => hF5.block q (hO.lt hq) (fun e => hne (by rw [hq, e]))
           have hb5 := hF5.below hb hb.size (fun j hj => by rw [hj]; exact hgw)
           clear hB hO hb)
        | (at_builtin
           refine wpList_push rfl _ _ rfl rfl (hO5.none_ (World.grownBy_alloc w5 _ none)) w5.heap.size 1 (tt : Int) rfl (Blk.new w5 _ _) hlen (by show _ ≤ (w5.heap.push _).size; have := hb5.size; simp; omega) ?_
           intro g6 cap6 w6 ho6 hgr6 hat6 _
           have hb6 := (hb5.alloc hb5.size (.cells #[.int .i64 (tt : Int)] 3)).grown hgr6 (by show _ ≤ (w5.heap.push _).size; have := hb5.size; simp; omega) (fun g hg => hO5.ge hg)
           have hB6 := (hB5.alloc (.cells #[.int .i64 (tt : Int)] 3)).grown hgr6 (fun e => hne e.symm)
           rw [e1H.out] at ho6))
      go_roundw
      case rel => exact ⟨i + 1, by omega, by go_num, ho6, by rw [hpwH.out]; exact hB6, hb6⟩
      case measure => simp only [intOf]; omega
    · have hlti : ¬ (i : Int) < m := by omega
      obtain rfl : i = m := by omega
      rw [hRH.out] at hO
      have hRl : R.length = i := by rw [← hRH.out]; exact hplH.out i
      obtain ⟨A, cp, rfl, hr⟩ := hO.reads
      have el : (natI R).length = i := by rw [← hRl]; simp [natI]
      rw [el] at hr ⊢
      go_wp2_with (fail)
      go_ret
      exact ⟨⟨_, ⟨_, rfl⟩, hr⟩, hb⟩
end Br
end Go.Proofs.YthbkfhhnhiplkaaDoor
