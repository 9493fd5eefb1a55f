/- packet's fill: the last loop: the filling is read off, size by size. -/
import Derived.Test.YthbkfhhnhiplkaaGreatDoorPkH
namespace Go.Proofs.YthbkfhhnhiplkaaGreatDoor
open Go.RowKit
namespace Pk
open Bu (natI natI_at)
set_option maxRecDepth 100000 in
set_option maxHeartbeats 1000000 in
theorem loop6 (A : Option Addr) (K c : Nat) (ss ms : List Nat) (hS : Stk ss ms) (N : Nat) (hN : N ≤ 1000) (B : Nat) (w0 : World) (hB : B ≤ w0.heap.size) (hr : RInts w0 B A K (natI ss))
    (T : Array Value) (hT0 : T[0]? = some (.slice A K c)) (ps : List (Nat × Nat)) (hps : prs ss ms = ps) (hpl : ps.length = K) (hK5 : K ≤ 5)
    (g2 gC : Nat) (CS : Array Value) (h2 : Blk w0 g2 191 T) (hC : Blk w0 gC 28 CS) (hcho : Cho w0 ps N CS 0)
    (v1 v19 v152 : Value) (s0 s3 s4 s5 s6 s7 s8 s9 s10 s11 s12 s13 s14 s15 s16 s17 s18 s20 s21 s22 s23 s24 s25 s26 s27 s28 s29 s30 s31 s32 s33 s34 s35 s36 s37 s38 s39 s40 s41 s42 s43 s44 s45 s46 s47 s48 s49 s50 s51 s52 s53 s54 s55 s56 s57 s58 s59 s60 s61 s62 s63 s64 s65 s66 s67 s68 s69 s70 s71 s72 s73 s74 s75 s76 s77 s78 s79 s80 s81 s82 s83 s84 s85 s86 s87 s88 s89 s90 s91 s92 s93 s94 s95 s96 s97 s98 s99 s100 s101 s102 s103 s104 s105 s106 s107 s108 s109 s110 s111 s112 s113 s114 s115 s116 s117 s118 s119 s120 s121 s122 s123 s124 s125 s126 s127 s128 s129 s130 s131 s132 s133 s134 s135 s136 s137 s138 s139 s140 s141 s142 s143 s144 s145 s146 s147 s148 s149 s153 s154 s155 s156 s157 s158 s159 s160 s161 s162 s163 s164 s165 s166 s167 s168 s169 s170 s171 s172 s173 s174 s175 s176 s177 : Value) (Q0 : Exit → Act → World → Prop) (h1 : v1 = .int .i64 (N : Int)) (h19 : v19 = .slice none 0 0) (h152 : v152 = .int .i64 0)
    (hexit : ∀ (z1 v z152 u20 u21 u153 u154 u155 u156 u157 u158 u159 u160 u161 u162 u163 u164 u165 u166 u167 u168 u169 u170 u171 u172 u173 u174 u175 u176 : Value) (w' : World), OwnI w' w0.heap.size v (takeL N ps N) → Below w0.heap.size w0 w' → Q0 (.exit 10) ⟨(s0 :: z1 :: (.pointer (some ⟨g2, 0, none⟩)) :: s3 :: s4 :: s5 :: s6 :: s7 :: s8 :: s9 :: s10 :: s11 :: s12 :: s13 :: s14 :: s15 :: s16 :: s17 :: s18 :: v :: u20 :: u21 :: s22 :: s23 :: s24 :: s25 :: s26 :: s27 :: s28 :: s29 :: s30 :: s31 :: s32 :: s33 :: s34 :: s35 :: s36 :: s37 :: s38 :: s39 :: s40 :: s41 :: s42 :: s43 :: s44 :: s45 :: s46 :: s47 :: s48 :: s49 :: s50 :: s51 :: s52 :: s53 :: s54 :: s55 :: s56 :: s57 :: s58 :: s59 :: s60 :: s61 :: s62 :: s63 :: s64 :: s65 :: s66 :: s67 :: s68 :: s69 :: s70 :: s71 :: s72 :: s73 :: s74 :: s75 :: s76 :: s77 :: s78 :: s79 :: s80 :: s81 :: s82 :: s83 :: s84 :: s85 :: s86 :: s87 :: s88 :: s89 :: s90 :: s91 :: s92 :: s93 :: s94 :: s95 :: s96 :: s97 :: s98 :: s99 :: s100 :: s101 :: s102 :: s103 :: s104 :: s105 :: s106 :: s107 :: s108 :: s109 :: s110 :: s111 :: s112 :: s113 :: s114 :: s115 :: s116 :: s117 :: s118 :: s119 :: s120 :: s121 :: s122 :: s123 :: s124 :: s125 :: s126 :: s127 :: s128 :: s129 :: s130 :: s131 :: s132 :: s133 :: s134 :: s135 :: s136 :: s137 :: s138 :: s139 :: s140 :: s141 :: s142 :: s143 :: s144 :: s145 :: s146 :: s147 :: s148 :: s149 :: (.slice (some ⟨gC, 0, none⟩) K K) :: (.int .i64 (K : Int)) :: z152 :: u153 :: u154 :: u155 :: u156 :: u157 :: u158 :: u159 :: u160 :: u161 :: u162 :: u163 :: u164 :: u165 :: u166 :: u167 :: u168 :: u169 :: u170 :: u171 :: u172 :: u173 :: u174 :: u175 :: u176 :: s177 :: []).toArray, []⟩ w') :
    Code.wp Tryz.prog (Code.loop (lp 5)) Q0 ⟨(s0 :: v1 :: (.pointer (some ⟨g2, 0, none⟩)) :: s3 :: s4 :: s5 :: s6 :: s7 :: s8 :: s9 :: s10 :: s11 :: s12 :: s13 :: s14 :: s15 :: s16 :: s17 :: s18 :: v19 :: s20 :: s21 :: s22 :: s23 :: s24 :: s25 :: s26 :: s27 :: s28 :: s29 :: s30 :: s31 :: s32 :: s33 :: s34 :: s35 :: s36 :: s37 :: s38 :: s39 :: s40 :: s41 :: s42 :: s43 :: s44 :: s45 :: s46 :: s47 :: s48 :: s49 :: s50 :: s51 :: s52 :: s53 :: s54 :: s55 :: s56 :: s57 :: s58 :: s59 :: s60 :: s61 :: s62 :: s63 :: s64 :: s65 :: s66 :: s67 :: s68 :: s69 :: s70 :: s71 :: s72 :: s73 :: s74 :: s75 :: s76 :: s77 :: s78 :: s79 :: s80 :: s81 :: s82 :: s83 :: s84 :: s85 :: s86 :: s87 :: s88 :: s89 :: s90 :: s91 :: s92 :: s93 :: s94 :: s95 :: s96 :: s97 :: s98 :: s99 :: s100 :: s101 :: s102 :: s103 :: s104 :: s105 :: s106 :: s107 :: s108 :: s109 :: s110 :: s111 :: s112 :: s113 :: s114 :: s115 :: s116 :: s117 :: s118 :: s119 :: s120 :: s121 :: s122 :: s123 :: s124 :: s125 :: s126 :: s127 :: s128 :: s129 :: s130 :: s131 :: s132 :: s133 :: s134 :: s135 :: s136 :: s137 :: s138 :: s139 :: s140 :: s141 :: s142 :: s143 :: s144 :: s145 :: s146 :: s147 :: s148 :: s149 :: (.slice (some ⟨gC, 0, none⟩) K K) :: (.int .i64 (K : Int)) :: v152 :: s153 :: s154 :: s155 :: s156 :: s157 :: s158 :: s159 :: s160 :: s161 :: s162 :: s163 :: s164 :: s165 :: s166 :: s167 :: s168 :: s169 :: s170 :: s171 :: s172 :: s173 :: s174 :: s175 :: s176 :: s177 :: []).toArray, []⟩ w0 := by
  conv => arg 2; arg 1; whnf
  have hSH := Lib.hid hS
  have hpsH := Lib.hid hps
  obtain ⟨R, hR⟩ : ∃ R, takeL N ps N = R := ⟨_, rfl⟩
  rw [hR] at hexit
  have hRH := Lib.hid hR
  have hchH := Lib.hid hcho
  clear hS hps hR hcho
  go_loopw [1, 19, 152] (fun a v q wr => ∃ (i x : Nat) (acc : List Int), i ≤ K ∧ x ≤ N ∧ a = .int .i64 x ∧ q = .int .i64 i ∧ acc.length = i ∧ OwnI wr w0.heap.size v acc ∧ Hid (acc ++ takeL N (ps.drop i) x = R) ∧ Below w0.heap.size w0 wr) (fun _ _ v _ => K - (intOf v).toNat)
  case atStart => exact ⟨0, N, [], by omega, Nat.le_refl _, h1, h152, rfl, by rw [h19]; exact OwnI.nil _ _, Lib.hid (by rw [List.nil_append, List.drop_zero]; exact hRH.out), Below.refl _ _⟩
  case round =>
    clear h1 h19 h152
    obtain ⟨i, x, acc, hi, hxN, rfl, rfl, hal, ho, hE, hb⟩ := hrel
    obtain ⟨wb, rfl⟩ : ∃ x, x = wr := ⟨wr, rfl⟩
    by_cases hlt : i < K
    · have hlti : (i : Int) < K := by omega
      have hi0 : (0 : Int) ≤ i := by omega
      obtain ⟨ad, z, rfl, hadb, hcs, hz⟩ := hr.at_ hlt
      obtain ⟨s, hs, rfl⟩ := natI_at hz.out
      obtain ⟨⟨s', mo⟩, hpk⟩ : ∃ p, ps[i]? = some p := ⟨_, List.getElem?_eq_getElem (by omega)⟩
      have hmo : ms[i]? = some mo ∧ s' = s := by
        have h3 := hpk
        rw [← hpsH.out, prs, List.getElem?_zip_eq_some, hs] at h3
        exact ⟨h3.2, by have := h3.1; injection this with this; exact this.symm⟩
      obtain ⟨_, rfl⟩ := hmo
      have hdrop : ps.drop i = (s', mo) :: ps.drop (i + 1) := by
        obtain ⟨hk, he⟩ := List.getElem?_eq_some_iff.1 hpk
        rw [List.drop_eq_getElem_cons hk, he]
      obtain ⟨Y, hCY, hY⟩ := hchH.out.2 i _ (Nat.zero_le _) hpk
      have hsr := hSH.out.siz.rng s' (List.mem_of_getElem? hs)
      obtain ⟨m, hm⟩ : ∃ m, manyT (fewL N (ps.drop (i + 1))) s' mo x = m := ⟨_, rfl⟩
      have hml := many_le (fewL N (ps.drop (i + 1))) s' mo x
      rw [hm] at hml
      obtain ⟨p, hp⟩ : ∃ p, m * s' = p := ⟨_, rfl⟩
      have hpm : (m : Int) * (s' : Int) = p := by rw [← hp]; simp
      rw [hp] at hml
      obtain ⟨x', hx'⟩ : ∃ x', x - p = x' := ⟨_, rfl⟩
      have hxp : (x : Int) - p = x' := by omega
      have hE1 := Lib.hid (show (acc ++ [(m : Int)]) ++ takeL N (ps.drop (i + 1)) x' = R by
        rw [← hE.out, hdrop, takeL, hm, hp, hx']; simp)
      have hmle : m ≤ 1000 := by
        have h3 := Nat.mul_le_mul_left m hsr.1
        omega
      have hcell : ∀ w', Below w0.heap.size w0 w' → w'.cell? (ad.add i) = some (.int .i64 (s' : Int)) ∧ w'.cell? ⟨gC, i, none⟩ = some (.slice (some ⟨Y, 0, none⟩) (N + 1) (N + 1)) ∧ w'.cell? ⟨Y, x, none⟩ = some (.int .i64 (m : Int)) ∧ w'.cell? ⟨g2, 0, none⟩ = some (.slice (some ad) K c) := fun w' h => by
        refine ⟨(h.cell (by rw [block_of_add]; omega)).trans hcs, ?_, ?_, ?_⟩
        · rw [(hC.below h hC.lt).cell]; exact hCY
        · rw [(hY.below h hY.lt).cell, intArr_at, stepB_at hxN, hm]; rfl
        · rw [(h2.below h h2.lt).cell]; exact hT0
      have hcellH := Lib.hid hcell
      obtain ⟨k1, k2, k3, k4⟩ := hcell wb hb
      have hx0 : (0 : Int) ≤ x := by omega
      have hx1 : (x : Int) < N + 1 := by omega
      clear hcs hz hs hpk hml hp hx' hdrop hCY hm hE hcell
      go_wp2_with (first
        | (at_builtin
           refine wpList_push rfl _ _ rfl rfl (ho.none_ (World.grownBy_alloc wb _ none)) wb.heap.size 1 (m : Int) rfl (Blk.new wb _ _) (by omega) (by show _ ≤ (wb.heap.push _).size; have := hb.size; simp; omega) ?_
           intro g6 cap6 w6 ho6 hgr6 hat6 _
           have hb6 := (hb.alloc hb.size (.cells #[.int .i64 (m : Int)] 3)).grown hgr6 (by show _ ≤ (wb.heap.push _).size; have := hb.size; simp; omega) (fun g hg => ho.ge hg)
           obtain ⟨q1, q2, q3, q4⟩ := hcellH.out w6 hb6
           clear k1 k2 k3 k4))
      go_quiet (fail)
      go_wp2_with (fail)
      go_roundw
      case rel => exact ⟨i + 1, x', acc ++ [(m : Int)], by omega, by omega, rfl, by go_num, by simp; omega, by rw [hal] at ho6; exact ho6.drewN nq, hE1, below_drewN hb6 _⟩
      case measure => simp only [intOf]; omega
    · have hlti : ¬ (i : Int) < K := by omega
      obtain rfl : i = K := by omega
      have hE2 : acc = R := by
        rw [← hE.out, List.drop_of_length_le (by omega), takeL, List.append_nil]
      rw [hE2] at ho
      clear hE2
      go_wp2_with (fail)
      exact hexit _ _ _ _ _ _ _ _ _ _ _ _ _ _ _ _ _ _ _ _ _ _ _ _ _ _ _ _ _ _ ho hb
end Pk
end Go.Proofs.YthbkfhhnhiplkaaGreatDoor
