/- packet's fill: the loop that takes numbers off the window's end. -/
import Derived.Test.YthbkfhhnhiplkaaGreatDoorPkC
import Derived.Test.YthbkfhhnhiplkaaGreatDoorPkQ
import Derived.Deep.CutRange
namespace Go.Proofs.YthbkfhhnhiplkaaGreatDoor
open Go.RowKit
namespace Pk
open Bu (natI natI_at)
/-- the bodies of all loops, the outer ones first -/
def bodies : Code → List Code
  | .loop c => c :: bodies c
  | .seq a b => bodies a ++ bodies b
  | .block _ c => bodies c
  | .scope c => bodies c
  | .cond _ a b => bodies a ++ bodies b
  | _ => []
noncomputable def lp (k : Nat) : Code := (((Tryz.f116.body.map bodies).getD [])[k]?).getD .skip
/-- the closure's value -/
abbrev cl (g6 g14 g10 g16 : Nat) : Value := .func (.func 136) #[] #[.pointer (some ⟨g6, 0, none⟩), .pointer (some ⟨g14, 0, none⟩), .pointer (some ⟨g10, 0, none⟩), .pointer (some ⟨g16, 0, none⟩)]
def lenOf : Value → Nat
  | .slice _ n _ => n
  | _ => 0
theorem cell_lt {w : World} {p : Addr} {v : Value} (h : w.cell? p = some v) : p.block < w.heap.size := by
  rcases Nat.lt_or_ge p.block w.heap.size with h1 | h1
  · exact h1
  · unfold World.cell? at h
    rw [Array.getElem?_eq_none h1] at h
    cases h
theorem CoC.below {w w' : World} {g6 g14 g10 g16 F N : Nat} {few : List Int} {r size j : Nat} (h : CoC w g6 g14 g10 g16 F N few r size j) (hb : Below w.heap.size w w') : CoC w' g6 g14 g10 g16 F N few r size j := by
  have k : ∀ p : Addr, ∀ v, w.cell? p = some v → w'.cell? p = some v := fun p v hp => (hb.cell (cell_lt hp)).trans hp
  exact ⟨k _ _ h.c6, k _ _ h.c14, k _ _ h.c10, k _ _ h.c16, fun x hx => k _ _ (h.cf x hx)⟩
theorem RowI.callee {w w' : World} {base : Nat} {v : Value} {og : Option Nat} {l : List Int} (h : RowI w base v og l) (hb : Below w.heap.size w w') : RowI w' base v og l := h.same fun g hg => hb.block g (h.lt hg)
theorem nil_or_end (W : List Nat) : W = [] ∨ ∃ V a, W = V ++ [a] := by
  rcases W.eq_nil_or_concat with h | ⟨V, a, h⟩
  · exact Or.inl h
  · exact Or.inr ⟨V, a, by rw [h, List.concat_eq_append]⟩
set_option maxRecDepth 100000 in
set_option maxHeartbeats 400000 in
theorem loop5 (N g6 g14 g10 g16 F r s mo j xj base : Nat) (few : List Int) (og : Option Nat) (W0 : List Nat) (hN : N ≤ 1000) (hs : 1 ≤ s ∧ s ≤ 30) (hxj : r + j * s = xj) (hxN : xj ≤ N) (hf : ∀ x, 0 ≤ few.getD x 0 ∧ few.getD x 0 ≤ 1001)
    (v15 : Value) (s0 s2 s3 s4 s5 s7 s8 s9 s11 s12 s13 s18 s19 s20 s21 s22 s23 s24 s25 s26 s27 s28 s29 s30 s31 s32 s33 s34 s35 s36 s37 s38 s39 s40 s41 s42 s43 s44 s45 s46 s47 s48 s49 s50 s51 s52 s53 s54 s55 s56 s57 s58 s59 s60 s61 s62 s63 s64 s65 s66 s67 s68 s69 s70 s71 s72 s73 s74 s75 s76 s77 s78 s79 s80 s81 s82 s83 s84 s85 s86 s87 s88 s89 s90 s91 s92 s93 s94 s95 s96 s97 s98 s99 s100 s101 s102 s103 s104 s105 s106 s107 s108 s109 s110 s111 s112 s113 s114 s115 s116 s117 s118 s119 s120 s121 s122 s123 s124 s125 s126 s127 s128 s129 s130 s131 s132 s133 s134 s135 s136 s137 s138 s139 s140 s141 s142 s143 s144 s145 s146 s147 s148 s149 s150 s151 s152 s153 s154 s155 s156 s157 s158 s159 s160 s161 s162 s163 s164 s165 s166 s167 s168 s169 s170 s171 s172 s173 s174 s175 s176 s177 : Value) (Q0 : Exit → Act → World → Prop) (w : World)
    (hC : CoC w g6 g14 g10 g16 F N few r s j) (hW : RowI w base v15 og (natI W0)) (hP : Wp few s mo r j W0)
    (hexit : ∀ (v : Value) (W : List Nat) (u81 u82 u83 u84 u85 u86 u87 u88 u89 u90 u91 u92 u93 u94 u95 u96 u97 u98 u99 u100 u101 u102 : Value) (w' : World), RowI w' base v og (natI W) → Win (fun i => few.getD (r + i * s) 0 - i) (j - 1 - mo) j (W ++ [j]) → Below w.heap.size w w' → Q0 (.exit 8) ⟨(s0 :: (.int .i64 (N : Int)) :: s2 :: s3 :: s4 :: s5 :: (.pointer (some ⟨g6, 0, none⟩)) :: s7 :: s8 :: s9 :: (.pointer (some ⟨g10, 0, none⟩)) :: s11 :: s12 :: s13 :: (.pointer (some ⟨g14, 0, none⟩)) :: v :: (.pointer (some ⟨g16, 0, none⟩)) :: (cl g6 g14 g10 g16) :: s18 :: s19 :: s20 :: s21 :: s22 :: s23 :: s24 :: s25 :: s26 :: s27 :: s28 :: s29 :: s30 :: s31 :: s32 :: s33 :: s34 :: s35 :: s36 :: s37 :: s38 :: s39 :: s40 :: s41 :: s42 :: s43 :: s44 :: s45 :: s46 :: s47 :: s48 :: s49 :: s50 :: s51 :: s52 :: s53 :: s54 :: s55 :: s56 :: s57 :: s58 :: s59 :: s60 :: s61 :: s62 :: s63 :: s64 :: s65 :: s66 :: s67 :: s68 :: s69 :: s70 :: s71 :: s72 :: s73 :: s74 :: s75 :: s76 :: s77 :: s78 :: s79 :: s80 :: u81 :: u82 :: u83 :: u84 :: u85 :: u86 :: u87 :: u88 :: u89 :: u90 :: u91 :: u92 :: u93 :: u94 :: u95 :: u96 :: u97 :: u98 :: u99 :: u100 :: u101 :: u102 :: s103 :: s104 :: s105 :: s106 :: s107 :: s108 :: s109 :: s110 :: s111 :: s112 :: s113 :: s114 :: s115 :: s116 :: s117 :: s118 :: s119 :: s120 :: s121 :: s122 :: s123 :: s124 :: s125 :: s126 :: s127 :: s128 :: s129 :: s130 :: s131 :: s132 :: s133 :: s134 :: s135 :: s136 :: s137 :: s138 :: s139 :: s140 :: s141 :: s142 :: s143 :: s144 :: s145 :: s146 :: s147 :: s148 :: s149 :: s150 :: s151 :: s152 :: s153 :: s154 :: s155 :: s156 :: s157 :: s158 :: s159 :: s160 :: s161 :: s162 :: s163 :: s164 :: s165 :: s166 :: s167 :: s168 :: s169 :: s170 :: s171 :: s172 :: s173 :: s174 :: s175 :: s176 :: s177 :: []).toArray, []⟩ w') :
    Code.wp Tryz.prog (Code.loop (lp 4)) Q0 ⟨(s0 :: (.int .i64 (N : Int)) :: s2 :: s3 :: s4 :: s5 :: (.pointer (some ⟨g6, 0, none⟩)) :: s7 :: s8 :: s9 :: (.pointer (some ⟨g10, 0, none⟩)) :: s11 :: s12 :: s13 :: (.pointer (some ⟨g14, 0, none⟩)) :: v15 :: (.pointer (some ⟨g16, 0, none⟩)) :: (cl g6 g14 g10 g16) :: s18 :: s19 :: s20 :: s21 :: s22 :: s23 :: s24 :: s25 :: s26 :: s27 :: s28 :: s29 :: s30 :: s31 :: s32 :: s33 :: s34 :: s35 :: s36 :: s37 :: s38 :: s39 :: s40 :: s41 :: s42 :: s43 :: s44 :: s45 :: s46 :: s47 :: s48 :: s49 :: s50 :: s51 :: s52 :: s53 :: s54 :: s55 :: s56 :: s57 :: s58 :: s59 :: s60 :: s61 :: s62 :: s63 :: s64 :: s65 :: s66 :: s67 :: s68 :: s69 :: s70 :: s71 :: s72 :: s73 :: s74 :: s75 :: s76 :: s77 :: s78 :: s79 :: s80 :: s81 :: s82 :: s83 :: s84 :: s85 :: s86 :: s87 :: s88 :: s89 :: s90 :: s91 :: s92 :: s93 :: s94 :: s95 :: s96 :: s97 :: s98 :: s99 :: s100 :: s101 :: s102 :: s103 :: s104 :: s105 :: s106 :: s107 :: s108 :: s109 :: s110 :: s111 :: s112 :: s113 :: s114 :: s115 :: s116 :: s117 :: s118 :: s119 :: s120 :: s121 :: s122 :: s123 :: s124 :: s125 :: s126 :: s127 :: s128 :: s129 :: s130 :: s131 :: s132 :: s133 :: s134 :: s135 :: s136 :: s137 :: s138 :: s139 :: s140 :: s141 :: s142 :: s143 :: s144 :: s145 :: s146 :: s147 :: s148 :: s149 :: s150 :: s151 :: s152 :: s153 :: s154 :: s155 :: s156 :: s157 :: s158 :: s159 :: s160 :: s161 :: s162 :: s163 :: s164 :: s165 :: s166 :: s167 :: s168 :: s169 :: s170 :: s171 :: s172 :: s173 :: s174 :: s175 :: s176 :: s177 :: []).toArray, []⟩ w := by
  conv => arg 2; arg 1; whnf
  have hPH := Lib.hid hP
  have hfH := Lib.hid hf
  clear hP hf
  go_loopw [15] (fun v wr => ∃ W : List Nat, RowI wr base v og (natI W) ∧ Hid (Wp few s mo r j W) ∧ Below w.heap.size w wr) (fun v _ => lenOf v)
  case atStart => exact ⟨W0, hW, hPH, Below.refl _ _⟩
  case round =>
    clear hW hPH
    obtain ⟨W, hW, hPH, hb⟩ := hrel
    obtain ⟨wa, rfl⟩ : ∃ x, x = wr := ⟨wr, rfl⟩
    have hCa := hC.below hb
    obtain ⟨zj, hzj⟩ : ∃ z, few.getD xj 0 = z := ⟨_, rfl⟩
    have hfj := hfH.out xj
    rw [hzj] at hfj
    have hj : j ≤ 1000 := by
      have := Nat.mul_le_mul_left j hs.1
      omega
    have hc16 := hCa.c16
    rcases nil_or_end W with rfl | ⟨V, a, rfl⟩
    · have hW0 := hW
      obtain ⟨A, cap, hv, _⟩ := hW
      replace hW0 : RowI wa base (.slice A 0 cap) og (natI []) := by rw [hv] at hW0; exact hW0
      replace hv := hv.trans (show Value.slice A (natI []).length cap = .slice A 0 cap from rfl)
      subst hv
      have hgd : decide ((0 : Int) < 0) = false := rfl
      go_wp2_with (fail)
      go_quiet (fail)
      go_wp2_with (fail)
      exact hexit _ [] _ _ _ _ _ _ _ _ _ _ _ _ _ _ _ _ _ _ _ _ _ _ _ (RowI.callee hW0 (below_drewN (Below.refl _ _) _)) (hPH.out.stay (Or.inl rfl)) (below_drewN hb _)
    · have haj := hPH.out.lt a (by simp)
      obtain ⟨xa, hxa⟩ : ∃ x, r + a * s = x := ⟨_, rfl⟩
      have hxaN : xa ≤ N := by
        have := Nat.mul_le_mul_right s (Nat.le_of_lt haj)
        omega
      obtain ⟨za, hza⟩ : ∃ z, few.getD xa 0 = z := ⟨_, rfl⟩
      have hfa := hfH.out xa
      rw [hza] at hfa
      have e1 : natI (V ++ [a]) = natI V ++ [(a : Int)] := by simp [natI]
      have e2 : (natI V).length = V.length := by simp [natI]
      rw [e1] at hW
      have hbig : V.length + 1 ≤ maxLen := by
        obtain ⟨_, cp, _, h1, h2, _⟩ := hW
        rw [List.length_append, e2] at h1
        simp only [List.length_cons, List.length_nil] at h1
        omega
      simp only [maxLen] at hbig
      have hW0 := hW
      obtain ⟨g, off, cap, rfl, rfl, hcap, hcell, hW2⟩ := hW.pop
      rw [e2] at hW0
      have cA := Lib.hid (fun q => cost_any g6 g14 g10 g16 F N few r s j a xa hN hxa hxaN (by omega) hj za hza hfa.1 hfa.2 (wa.drewN q) (hCa.drewN q))
      have cJ := Lib.hid (fun q => cost_any g6 g14 g10 g16 F N few r s j j xj hN hxj hxN hj hj zj hzj hfj.1 hfj.2 (wa.drewN q) (hCa.drewN q))
      rw [e2] at hcell hcap hW2
      rw [e2]
      obtain ⟨q, hq⟩ : ∃ q, V.length = q := ⟨_, rfl⟩
      obtain ⟨q1, hq1⟩ : ∃ q1, q + 1 = q1 := ⟨_, rfl⟩
      rw [hq] at hcell hcap hW2 hW0 ⊢
      rw [hq1] at hcap hW0 ⊢
      have hgd : decide ((0 : Int) < (q1 : Int)) = true := decide_eq_true (by omega)
      have hgn : decide (0 < q1) = true := decide_eq_true (by omega)
      have hi1 : (q1 : Int) - 1 = (q : Nat) := by omega
      have hi2 : (q : Int) < (q1 : Int) := by omega
      have hadd : (⟨g, off, none⟩ : Addr).add q = ⟨g, off + q, none⟩ := by unfold Addr.add; split <;> simp_all
      have hw1 : IntKind.i64.wrap ((q1 : Int) - 1) = (q : Int) := by rw [IntKind.wrap_i64]; omega
      have hw2 : IntKind.i64.wrap (q : Int) = (q : Int) := by rw [IntKind.wrap_i64]; omega
      clear hq1
      by_cases hc : zj - (j : Int) ≤ za - a
      · have hcm : zj ≤ za + j - a := by omega
        go_wp2_with (fail)
        go_quiet (first
          | (with_reducible exact Calls.quiet_of (cA.out _))
          | (with_reducible exact Calls.quiet_of (cJ.out _)))
        go_wp2_with (fail)
        exact ⟨⟨V, RowI.callee hW2 (below_drewN (Below.refl _ _) _), Lib.hid (hPH.out.pop (by rw [hxj, hzj, hxa, hza]; exact hc)), below_drewN hb _⟩, by simp only [lenOf]; omega⟩
      · have hcm : ¬ zj ≤ za + j - a := by omega
        go_wp2_with (fail)
        go_quiet (first
          | (with_reducible exact Calls.quiet_of (cA.out _))
          | (with_reducible exact Calls.quiet_of (cJ.out _)))
        go_wp2_with (fail)
        exact hexit _ (V ++ [a]) _ _ _ _ _ _ _ _ _ _ _ _ _ _ _ _ _ _ _ _ _ _ _ (by rw [e1]; exact RowI.callee hW0 (below_drewN (Below.refl _ _) _)) (hPH.out.stay (Or.inr ⟨V, a, rfl, by rw [hxj, hzj, hxa, hza]; omega⟩)) (below_drewN hb _)
end Pk
end Go.Proofs.YthbkfhhnhiplkaaGreatDoor
