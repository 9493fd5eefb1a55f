/- packet's fill: the loop over the remainders. -/
import Derived.Test.YthbkfhhnhiplkaaGreatDoorPkF
namespace Go.Proofs.YthbkfhhnhiplkaaGreatDoor
open Go.RowKit
namespace Pk
open Bu (natI natI_at)
/-- what stands in the loop over the remainders -/
structure L3 (w0 : World) (g6 g10 F X Y N : Nat) (few : List Int) (s : Nat) : Prop where
  c6 : w0.cell? ⟨g6, 0, none⟩ = some (.slice (some ⟨F, 0, none⟩) (N + 1) (N + 1))
  c10 : w0.cell? ⟨g10, 0, none⟩ = some (.int .i64 (s : Int))
  cf : ∀ x, x ≤ N → w0.cell? ⟨F, x, none⟩ = some (.int .i64 (few.getD x 0))
  n6 : g6 ≠ X ∧ g6 ≠ Y
  n10 : g10 ≠ X ∧ g10 ≠ Y
  nf : F ≠ X ∧ F ≠ Y
  xy : X ≠ Y
  xl : X < w0.heap.size
  yl : Y < w0.heap.size
theorem Fr.trans {S : Nat → Prop} {a b c : World} (h : Fr S a b) (h2 : Fr S b c) : Fr S a c :=
  ⟨h2.os.trans h.os, h2.tape.trans h.tape, h2.output.trans h.output, Nat.le_trans h.size h2.size, fun i hi hn => (h2.block i (Nat.lt_of_lt_of_le hi h.size) hn).trans (h.block i hi hn)⟩
theorem Fr.refl (S : Nat → Prop) (w : World) : Fr S w w := ⟨rfl, rfl, rfl, Nat.le_refl _, fun _ _ _ => rfl⟩
theorem L3.l4 {w0 w : World} {g6 g10 F X Y N : Nat} {few : List Int} {s : Nat} (h : L3 w0 g6 g10 F X Y N few s) (hF : Fr (fun i => i = X ∨ i = Y) w0 w) (r : Nat) :
    L4 (w.alloc (.cells #[.int .i64 (r : Int)] 3)) g6 w.heap.size g10 F X Y N few r s := by
  have hF2 : Fr (fun i => i = X ∨ i = Y) w0 (w.alloc (.cells #[.int .i64 (r : Int)] 3)) := Fr.belowR hF ((Below.refl _ _).alloc (Nat.le_refl _) _)
  have hX := h.xl
  have hY := h.yl
  have hs := hF.size
  have hs2 : (w.alloc (.cells #[.int .i64 (r : Int)] 3)).heap.size = w.heap.size + 1 := by show (w.heap.push _).size = _; simp
  exact ⟨Fr.cell hF2 h.c6 (by have := h.n6; show ¬ (g6 = X ∨ g6 = Y); omega), (Blk.new w _ _).cell 0, Fr.cell hF2 h.c10 (by have := h.n10; show ¬ (g10 = X ∨ g10 = Y); omega),
    fun x hx => Fr.cell hF2 (h.cf x hx) (by have := h.nf; show ¬ (F = X ∨ F = Y); omega), h.n6, by omega, h.n10, h.nf, h.xy, by omega, by omega⟩
set_option maxRecDepth 100000 in
set_option maxHeartbeats 1000000 in
theorem loop3 (N g6 g10 F X Y s mo R : Nat) (few XL0 YL0 : List Int) (hN : N ≤ 1000) (hs : 1 ≤ s ∧ s ≤ 30) (hmo : mo ≤ 40) (hRs : R ≤ s) (hf : ∀ x, 0 ≤ few.getD x 0 ∧ few.getD x 0 ≤ 1001)
    (v68 : Value) (s0 s2 s3 s4 s5 s7 s8 s9 s14 s15 s16 s17 s18 s19 s20 s21 s22 s23 s24 s25 s26 s27 s28 s29 s30 s31 s32 s33 s34 s35 s36 s37 s38 s39 s40 s41 s42 s43 s44 s45 s46 s47 s48 s49 s50 s51 s52 s53 s54 s55 s56 s57 s58 s59 s60 s61 s62 s63 s64 s65 s66 s69 s70 s71 s72 s73 s74 s75 s76 s77 s78 s79 s80 s81 s82 s83 s84 s85 s86 s87 s88 s89 s90 s91 s92 s93 s94 s95 s96 s97 s98 s99 s100 s101 s102 s103 s104 s105 s106 s107 s108 s109 s110 s111 s112 s113 s114 s115 s116 s117 s118 s119 s120 s121 s122 s123 s124 s125 s126 s127 s128 s129 s130 s131 s132 s133 s134 s135 s136 s137 s138 s139 s140 s141 s142 s143 s144 s145 s146 s147 s148 s149 s150 s151 s152 s153 s154 s155 s156 s157 s158 s159 s160 s161 s162 s163 s164 s165 s166 s167 s168 s169 s170 s171 s172 s173 s174 s175 s176 s177 : Value) (Q0 : Exit → Act → World → Prop) (w0 : World) (hL : L3 w0 g6 g10 F X Y N few s)
    (h68 : v68 = .int .i64 0) (hD : Dn few s mo N 0 0 XL0 YL0) (hX : Blk w0 X 3 (intArr XL0)) (hY : Blk w0 Y 3 (intArr YL0))
    (hexit : ∀ (v : Value) (XL YL : List Int) (u14 u15 u16 u17 u18 u69 u70 u71 u72 u73 u74 u75 u76 u77 u78 u79 u80 u81 u82 u83 u84 u85 u86 u87 u88 u89 u90 u91 u92 u93 u94 u95 u96 u97 u98 u99 u100 u101 u102 u103 u104 u105 u106 u107 u108 u109 u110 u111 u112 u113 u114 u115 u116 u117 u118 u119 u120 u121 u122 u123 u124 u125 u126 u127 u128 u129 u130 u131 u132 u133 u134 u135 u136 u137 u138 u139 : Value) (w' : World), Dn few s mo N R 0 XL YL → Blk w' X 3 (intArr XL) → Blk w' Y 3 (intArr YL) → Fr (fun i => i = X ∨ i = Y) w0 w' → Q0 (.exit 4) ⟨(s0 :: (.int .i64 (N : Int)) :: s2 :: s3 :: s4 :: s5 :: (.pointer (some ⟨g6, 0, none⟩)) :: s7 :: s8 :: s9 :: (.pointer (some ⟨g10, 0, none⟩)) :: (.int .i64 (mo : Int)) :: (.slice (some ⟨X, 0, none⟩) (N + 1) (N + 1)) :: (.slice (some ⟨Y, 0, none⟩) (N + 1) (N + 1)) :: u14 :: u15 :: u16 :: u17 :: u18 :: s19 :: s20 :: s21 :: s22 :: s23 :: s24 :: s25 :: s26 :: s27 :: s28 :: s29 :: s30 :: s31 :: s32 :: s33 :: s34 :: s35 :: s36 :: s37 :: s38 :: s39 :: s40 :: s41 :: s42 :: s43 :: s44 :: s45 :: s46 :: s47 :: s48 :: s49 :: s50 :: s51 :: s52 :: s53 :: s54 :: s55 :: s56 :: s57 :: s58 :: s59 :: s60 :: s61 :: s62 :: s63 :: s64 :: s65 :: s66 :: (.int .i64 (R : Int)) :: v :: u69 :: u70 :: u71 :: u72 :: u73 :: u74 :: u75 :: u76 :: u77 :: u78 :: u79 :: u80 :: u81 :: u82 :: u83 :: u84 :: u85 :: u86 :: u87 :: u88 :: u89 :: u90 :: u91 :: u92 :: u93 :: u94 :: u95 :: u96 :: u97 :: u98 :: u99 :: u100 :: u101 :: u102 :: u103 :: u104 :: u105 :: u106 :: u107 :: u108 :: u109 :: u110 :: u111 :: u112 :: u113 :: u114 :: u115 :: u116 :: u117 :: u118 :: u119 :: u120 :: u121 :: u122 :: u123 :: u124 :: u125 :: u126 :: u127 :: u128 :: u129 :: u130 :: u131 :: u132 :: u133 :: u134 :: u135 :: u136 :: u137 :: u138 :: u139 :: s140 :: s141 :: s142 :: s143 :: s144 :: s145 :: s146 :: s147 :: s148 :: s149 :: s150 :: s151 :: s152 :: s153 :: s154 :: s155 :: s156 :: s157 :: s158 :: s159 :: s160 :: s161 :: s162 :: s163 :: s164 :: s165 :: s166 :: s167 :: s168 :: s169 :: s170 :: s171 :: s172 :: s173 :: s174 :: s175 :: s176 :: s177 :: []).toArray, []⟩ w') :
    Code.wp Tryz.prog (Code.loop (lp 2)) Q0 ⟨(s0 :: (.int .i64 (N : Int)) :: s2 :: s3 :: s4 :: s5 :: (.pointer (some ⟨g6, 0, none⟩)) :: s7 :: s8 :: s9 :: (.pointer (some ⟨g10, 0, none⟩)) :: (.int .i64 (mo : Int)) :: (.slice (some ⟨X, 0, none⟩) (N + 1) (N + 1)) :: (.slice (some ⟨Y, 0, none⟩) (N + 1) (N + 1)) :: s14 :: s15 :: s16 :: s17 :: s18 :: s19 :: s20 :: s21 :: s22 :: s23 :: s24 :: s25 :: s26 :: s27 :: s28 :: s29 :: s30 :: s31 :: s32 :: s33 :: s34 :: s35 :: s36 :: s37 :: s38 :: s39 :: s40 :: s41 :: s42 :: s43 :: s44 :: s45 :: s46 :: s47 :: s48 :: s49 :: s50 :: s51 :: s52 :: s53 :: s54 :: s55 :: s56 :: s57 :: s58 :: s59 :: s60 :: s61 :: s62 :: s63 :: s64 :: s65 :: s66 :: (.int .i64 (R : Int)) :: v68 :: s69 :: s70 :: s71 :: s72 :: s73 :: s74 :: s75 :: s76 :: s77 :: s78 :: s79 :: s80 :: s81 :: s82 :: s83 :: s84 :: s85 :: s86 :: s87 :: s88 :: s89 :: s90 :: s91 :: s92 :: s93 :: s94 :: s95 :: s96 :: s97 :: s98 :: s99 :: s100 :: s101 :: s102 :: s103 :: s104 :: s105 :: s106 :: s107 :: s108 :: s109 :: s110 :: s111 :: s112 :: s113 :: s114 :: s115 :: s116 :: s117 :: s118 :: s119 :: s120 :: s121 :: s122 :: s123 :: s124 :: s125 :: s126 :: s127 :: s128 :: s129 :: s130 :: s131 :: s132 :: s133 :: s134 :: s135 :: s136 :: s137 :: s138 :: s139 :: s140 :: s141 :: s142 :: s143 :: s144 :: s145 :: s146 :: s147 :: s148 :: s149 :: s150 :: s151 :: s152 :: s153 :: s154 :: s155 :: s156 :: s157 :: s158 :: s159 :: s160 :: s161 :: s162 :: s163 :: s164 :: s165 :: s166 :: s167 :: s168 :: s169 :: s170 :: s171 :: s172 :: s173 :: s174 :: s175 :: s176 :: s177 :: []).toArray, []⟩ w0 := by
  conv => arg 2; arg 1; whnf
  have hDH := Lib.hid hD
  have hfH := Lib.hid hf
  clear hD hf
  go_loopw [68] (fun v wr => ∃ (r : Nat) (XL YL : List Int), r ≤ R ∧ v = .int .i64 r ∧ Hid (Dn few s mo N r 0 XL YL) ∧ Blk wr X 3 (intArr XL) ∧ Blk wr Y 3 (intArr YL) ∧ Fr (fun i => i = X ∨ i = Y) w0 wr) (fun v _ => R - (intOf v).toNat)
  case atStart => exact ⟨0, XL0, YL0, by omega, h68, hDH, hX, hY, Fr.refl _ _⟩
  case round =>
    clear hDH hX hY h68
    obtain ⟨r, XL, YL, hr, rfl, hDH, hX, hY, hF⟩ := hrel
    obtain ⟨wb, rfl⟩ : ∃ x, x = wr := ⟨wr, rfl⟩
    by_cases hlt : r < R
    · have hlti : (r : Int) < R := by omega
      have hL4 := L3.l4 hL hF r
      have hbA : Below wb.heap.size wb (wb.alloc (.cells #[.int .i64 (r : Int)] 3)) := (Below.refl _ _).alloc (Nat.le_refl _) _
      have hszA : (wb.alloc (.cells #[.int .i64 (r : Int)] 3)).heap.size = wb.heap.size + 1 := by show (wb.heap.push _).size = _; simp
      have hXA := hX.callee hbA
      have hYA := hY.callee hbA
      go_wp2_with (fail)
      refine loop4 N g6 wb.heap.size g10 F X Y r s mo few XL YL (wb.heap.size + 1) hN hs hmo (by omega) hfH.out _ _ _ _ _ _ _ _ _ _ _ _ _ _ _ _ _ _ _ _ _ _ _ _ _ _ _ _ _ _ _ _ _ _ _ _ _ _ _ _ _ _ _ _ _ _ _ _ _ _ _ _ _ _ _ _ _ _ _ _ _ _ _ _ _ _ _ _ _ _ _ _ _ _ _ _ _ _ _ _ _ _ _ _ _ _ _ _ _ _ _ _ _ _ _ _ _ _ _ _ _ _ _ _ _ _ _ _ _ _ _ _ _ _ _ _ _ _ _ _ _ _ _ _ _ _ _ _ _ _ _ _ _ _ _ _ _ _ _ _ _ _ _ _ _ _ _ _ _ _ _ _ _ _ _ _ _ _ _ _ _ _ _ _ _ _ _ _ _ _ _ _ (wb.alloc (.cells #[.int .i64 (r : Int)] 3)) _ hL4 rfl rfl ?_ ?_ hDH.out ?_ ?_ ?_ ?_
      · rw [← hszA]; exact Blk.new _ _ _
      · omega
      · exact hXA.alloc _
      · exact hYA.alloc _
      · exact Fr.belowR (Fr.refl _ _) ((Below.refl _ _).alloc (Nat.le_refl _) _)
      · intro v15 v16 XL2 YL2 t17 t18 t71 t72 t73 t74 t75 t76 t77 t78 t79 t80 t81 t82 t83 t84 t85 t86 t87 t88 t89 t90 t91 t92 t93 t94 t95 t96 t97 t98 t99 t100 t101 t102 t103 t104 t105 t106 t107 t108 t109 t110 t111 t112 t113 t114 t115 t116 t117 t118 t119 t120 t121 t122 t123 t124 t125 t126 t127 t128 t129 t130 t131 t132 t133 t134 t135 t136 t137 t138 w5 hD5 hX5 hY5 hF5
        have hD5H := Lib.hid hD5
        clear hD5
        go_wp2_with (fail)
        go_roundw
        case rel => exact ⟨r + 1, XL2, YL2, by omega, by go_num, hD5H, hX5, hY5, Fr.trans (Fr.belowR hF hbA) hF5⟩
        case measure => simp only [intOf]; omega
    · have hlti : ¬ (r : Int) < R := by omega
      obtain rfl : r = R := by omega
      go_wp2_with (fail)
      exact hexit _ XL YL _ _ _ _ _ _ _ _ _ _ _ _ _ _ _ _ _ _ _ _ _ _ _ _ _ _ _ _ _ _ _ _ _ _ _ _ _ _ _ _ _ _ _ _ _ _ _ _ _ _ _ _ _ _ _ _ _ _ _ _ _ _ _ _ _ _ _ _ _ _ _ _ _ _ _ _ _ hDH.out hX hY hF
end Pk
end Go.Proofs.YthbkfhhnhiplkaaGreatDoor
