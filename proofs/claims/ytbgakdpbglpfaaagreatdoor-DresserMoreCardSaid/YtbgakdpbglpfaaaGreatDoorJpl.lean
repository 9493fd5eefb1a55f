/- The texts PkG to PkD, joined by joinlist.py: their statements say what each proves. -/
import Derived.Test.YtbgakdpbglpfaaaGreatDoorJpk
import Derived.Deep.OwnRows
-- the text PkG
namespace Go.Proofs.YtbgakdpbglpfaaaGreatDoor
open Go.RowKit
namespace Pk
open Bu (natI natI_at)
/-- what stands in the loop over the remainders -/
structure L3 (w0 : World) (g6 g10 F X Y N : Nat) (few : List Int) (s : Nat) : Prop where
  c6 : w0.cell? ⟨g6, 0, none⟩ = some (.slice (some ⟨F, 0, none⟩) (N + 1) (N + 1))
  c10 : w0.cell? ⟨g10, 0, none⟩ = some (.int .i64 (s : Int))
  cf : ∀ x, x ≤ N → w0.cell? ⟨F, x, none⟩ = some (.int .i64 (few.getD x 0))
  n6 : g6 ≠ X ∧ g6 ≠ Y
  n10 : g10 ≠ X ∧ g10 ≠ Y
  nf : F ≠ X ∧ F ≠ Y
  xy : X ≠ Y
  xl : X < w0.heap.size
  yl : Y < w0.heap.size
theorem Fr.trans {S : Nat → Prop} {a b c : World} (h : Fr S a b) (h2 : Fr S b c) : Fr S a c :=
  ⟨h2.os.trans h.os, h2.tape.trans h.tape, h2.output.trans h.output, Nat.le_trans h.size h2.size, fun i hi hn => (h2.block i (Nat.lt_of_lt_of_le hi h.size) hn).trans (h.block i hi hn)⟩
theorem Fr.refl (S : Nat → Prop) (w : World) : Fr S w w := ⟨rfl, rfl, rfl, Nat.le_refl _, fun _ _ _ => rfl⟩
theorem L3.l4 {w0 w : World} {g6 g10 F X Y N : Nat} {few : List Int} {s : Nat} (h : L3 w0 g6 g10 F X Y N few s) (hF : Fr (fun i => i = X ∨ i = Y) w0 w) (r : Nat) :
    L4 (w.alloc (.cells #[.int .i64 (r : Int)] 3)) g6 w.heap.size g10 F X Y N few r s := by
  have hF2 : Fr (fun i => i = X ∨ i = Y) w0 (w.alloc (.cells #[.int .i64 (r : Int)] 3)) := Fr.belowR hF ((Below.refl _ _).alloc (Nat.le_refl _) _)
  have hX := h.xl
  have hY := h.yl
  have hs := hF.size
  have hs2 : (w.alloc (.cells #[.int .i64 (r : Int)] 3)).heap.size = w.heap.size + 1 := by show (w.heap.push _).size = _; simp
  exact ⟨Fr.cell hF2 h.c6 (by have := h.n6; show ¬ (g6 = X ∨ g6 = Y); omega), (Blk.new w _ _).cell 0, Fr.cell hF2 h.c10 (by have := h.n10; show ¬ (g10 = X ∨ g10 = Y); omega),
    fun x hx => Fr.cell hF2 (h.cf x hx) (by have := h.nf; show ¬ (F = X ∨ F = Y); omega), h.n6, by omega, h.n10, h.nf, h.xy, by omega, by omega⟩
set_option maxRecDepth 100000 in
set_option maxHeartbeats 1000000 in
theorem loop3 (N g6 g10 F X Y s mo R : Nat) (few XL0 YL0 : List Int) (hN : N ≤ 1000) (hs : 1 ≤ s ∧ s ≤ 30) (hmo : mo ≤ 40) (hRs : R ≤ s) (hf : ∀ x, 0 ≤ few.getD x 0 ∧ few.getD x 0 ≤ 1001)
    (v68 : Value) (s0 s2 s3 s4 s5 s7 s8 s9 s14 s15 s16 s17 s18 s19 s20 s21 s22 s23 s24 s25 s26 s27 s28 s29 s30 s31 s32 s33 s34 s35 s36 s37 s38 s39 s40 s41 s42 s43 s44 s45 s46 s47 s48 s49 s50 s51 s52 s53 s54 s55 s56 s57 s58 s59 s60 s61 s62 s63 s64 s65 s66 s69 s70 s71 s72 s73 s74 s75 s76 s77 s78 s79 s80 s81 s82 s83 s84 s85 s86 s87 s88 s89 s90 s91 s92 s93 s94 s95 s96 s97 s98 s99 s100 s101 s102 s103 s104 s105 s106 s107 s108 s109 s110 s111 s112 s113 s114 s115 s116 s117 s118 s119 s120 s121 s122 s123 s124 s125 s126 s127 s128 s129 s130 s131 s132 s133 s134 s135 s136 s137 s138 s139 s140 s141 s142 s143 s144 s145 s146 s147 s148 s149 s150 s151 s152 s153 s154 s155 s156 s157 s158 s159 s160 s161 s162 s163 s164 s165 s166 s167 s168 s169 s170 s171 s172 s173 s174 s175 s176 s177 : Value) (Q0 : Exit → Act → World → Prop) (w0 : World) (hL : L3 w0 g6 g10 F X Y N few s)
    (h68 : v68 = .int .i64 0) (hD : Dn few s mo N 0 0 XL0 YL0) (hX : Blk w0 X 3 (intArr XL0)) (hY : Blk w0 Y 3 (intArr YL0))
    (hexit : ∀ (v : Value) (XL YL : List Int) (u14 u15 u16 u17 u18 u69 u70 u71 u72 u73 u74 u75 u76 u77 u78 u79 u80 u81 u82 u83 u84 u85 u86 u87 u88 u89 u90 u91 u92 u93 u94 u95 u96 u97 u98 u99 u100 u101 u102 u103 u104 u105 u106 u107 u108 u109 u110 u111 u112 u113 u114 u115 u116 u117 u118 u119 u120 u121 u122 u123 u124 u125 u126 u127 u128 u129 u130 u131 u132 u133 u134 u135 u136 u137 u138 u139 : Value) (w' : World), Dn few s mo N R 0 XL YL → Blk w' X 3 (intArr XL) → Blk w' Y 3 (intArr YL) → Fr (fun i => i = X ∨ i = Y) w0 w' → Q0 (.exit 4) ⟨(s0 :: (.int .i64 (N : Int)) :: s2 :: s3 :: s4 :: s5 :: (.pointer (some ⟨g6, 0, none⟩)) :: s7 :: s8 :: s9 :: (.pointer (some ⟨g10, 0, none⟩)) :: (.int .i64 (mo : Int)) :: (.slice (some ⟨X, 0, none⟩) (N + 1) (N + 1)) :: (.slice (some ⟨Y, 0, none⟩) (N + 1) (N + 1)) :: u14 :: u15 :: u16 :: u17 :: u18 :: s19 :: s20 :: s21 :: s22 :: s23 :: s24 :: s25 :: s26 :: s27 :: s28 :: s29 :: s30 :: s31 :: s32 :: s33 :: s34 :: s35 :: s36 :: s37 :: s38 :: s39 :: s40 :: s41 :: s42 :: s43 :: s44 :: s45 :: s46 :: s47 :: s48 :: s49 :: s50 :: s51 :: s52 :: s53 :: s54 :: s55 :: s56 :: s57 :: s58 :: s59 :: s60 :: s61 :: s62 :: s63 :: s64 :: s65 :: s66 :: (.int .i64 (R : Int)) :: v :: u69 :: u70 :: u71 :: u72 :: u73 :: u74 :: u75 :: u76 :: u77 :: u78 :: u79 :: u80 :: u81 :: u82 :: u83 :: u84 :: u85 :: u86 :: u87 :: u88 :: u89 :: u90 :: u91 :: u92 :: u93 :: u94 :: u95 :: u96 :: u97 :: u98 :: u99 :: u100 :: u101 :: u102 :: u103 :: u104 :: u105 :: u106 :: u107 :: u108 :: u109 :: u110 :: u111 :: u112 :: u113 :: u114 :: u115 :: u116 :: u117 :: u118 :: u119 :: u120 :: u121 :: u122 :: u123 :: u124 :: u125 :: u126 :: u127 :: u128 :: u129 :: u130 :: u131 :: u132 :: u133 :: u134 :: u135 :: u136 :: u137 :: u138 :: u139 :: s140 :: s141 :: s142 :: s143 :: s144 :: s145 :: s146 :: s147 :: s148 :: s149 :: s150 :: s151 :: s152 :: s153 :: s154 :: s155 :: s156 :: s157 :: s158 :: s159 :: s160 :: s161 :: s162 :: s163 :: s164 :: s165 :: s166 :: s167 :: s168 :: s169 :: s170 :: s171 :: s172 :: s173 :: s174 :: s175 :: s176 :: s177 :: []).toArray, []⟩ w') :
    Code.wp Tryz.prog (Code.loop (lp 2)) Q0 ⟨(s0 :: (.int .i64 (N : Int)) :: s2 :: s3 :: s4 :: s5 :: (.pointer (some ⟨g6, 0, none⟩)) :: s7 :: s8 :: s9 :: (.pointer (some ⟨g10, 0, none⟩)) :: (.int .i64 (mo : Int)) :: (.slice (some ⟨X, 0, none⟩) (N + 1) (N + 1)) :: (.slice (some ⟨Y, 0, none⟩) (N + 1) (N + 1)) :: s14 :: s15 :: s16 :: s17 :: s18 :: s19 :: s20 :: s21 :: s22 :: s23 :: s24 :: s25 :: s26 :: s27 :: s28 :: s29 :: s30 :: s31 :: s32 :: s33 :: s34 :: s35 :: s36 :: s37 :: s38 :: s39 :: s40 :: s41 :: s42 :: s43 :: s44 :: s45 :: s46 :: s47 :: s48 :: s49 :: s50 :: s51 :: s52 :: s53 :: s54 :: s55 :: s56 :: s57 :: s58 :: s59 :: s60 :: s61 :: s62 :: s63 :: s64 :: s65 :: s66 :: (.int .i64 (R : Int)) :: v68 :: s69 :: s70 :: s71 :: s72 :: s73 :: s74 :: s75 :: s76 :: s77 :: s78 :: s79 :: s80 :: s81 :: s82 :: s83 :: s84 :: s85 :: s86 :: s87 :: s88 :: s89 :: s90 :: s91 :: s92 :: s93 :: s94 :: s95 :: s96 :: s97 :: s98 :: s99 :: s100 :: s101 :: s102 :: s103 :: s104 :: s105 :: s106 :: s107 :: s108 :: s109 :: s110 :: s111 :: s112 :: s113 :: s114 :: s115 :: s116 :: s117 :: s118 :: s119 :: s120 :: s121 :: s122 :: s123 :: s124 :: s125 :: s126 :: s127 :: s128 :: s129 :: s130 :: s131 :: s132 :: s133 :: s134 :: s135 :: s136 :: s137 :: s138 :: s139 :: s140 :: s141 :: s142 :: s143 :: s144 :: s145 :: s146 :: s147 :: s148 :: s149 :: s150 :: s151 :: s152 :: s153 :: s154 :: s155 :: s156 :: s157 :: s158 :: s159 :: s160 :: s161 :: s162 :: s163 :: s164 :: s165 :: s166 :: s167 :: s168 :: s169 :: s170 :: s171 :: s172 :: s173 :: s174 :: s175 :: s176 :: s177 :: []).toArray, []⟩ w0 := by
  conv => arg 2; arg 1; whnf
  have hDH := Lib.hid hD
  have hfH := Lib.hid hf
  clear hD hf
  go_loopw [68] (fun v wr => ∃ (r : Nat) (XL YL : List Int), r ≤ R ∧ v = .int .i64 r ∧ Hid (Dn few s mo N r 0 XL YL) ∧ Blk wr X 3 (intArr XL) ∧ Blk wr Y 3 (intArr YL) ∧ Fr (fun i => i = X ∨ i = Y) w0 wr) (fun v _ => R - (intOf v).toNat)
  case atStart => exact ⟨0, XL0, YL0, by omega, h68, hDH, hX, hY, Fr.refl _ _⟩
  case round =>
    clear hDH hX hY h68
    obtain ⟨r, XL, YL, hr, rfl, hDH, hX, hY, hF⟩ := hrel
    obtain ⟨wb, rfl⟩ : ∃ x, x = wr := ⟨wr, rfl⟩
    by_cases hlt : r < R
    · have hlti : (r : Int) < R := by omega
      have hL4 := L3.l4 hL hF r
      have hbA : Below wb.heap.size wb (wb.alloc (.cells #[.int .i64 (r : Int)] 3)) := (Below.refl _ _).alloc (Nat.le_refl _) _
      have hszA : (wb.alloc (.cells #[.int .i64 (r : Int)] 3)).heap.size = wb.heap.size + 1 := by show (wb.heap.push _).size = _; simp
      have hXA := hX.callee hbA
      have hYA := hY.callee hbA
      go_wp2_with (fail)
      refine loop4 N g6 wb.heap.size g10 F X Y r s mo few XL YL (wb.heap.size + 1) hN hs hmo (by omega) hfH.out _ _ _ _ _ _ _ _ _ _ _ _ _ _ _ _ _ _ _ _ _ _ _ _ _ _ _ _ _ _ _ _ _ _ _ _ _ _ _ _ _ _ _ _ _ _ _ _ _ _ _ _ _ _ _ _ _ _ _ _ _ _ _ _ _ _ _ _ _ _ _ _ _ _ _ _ _ _ _ _ _ _ _ _ _ _ _ _ _ _ _ _ _ _ _ _ _ _ _ _ _ _ _ _ _ _ _ _ _ _ _ _ _ _ _ _ _ _ _ _ _ _ _ _ _ _ _ _ _ _ _ _ _ _ _ _ _ _ _ _ _ _ _ _ _ _ _ _ _ _ _ _ _ _ _ _ _ _ _ _ _ _ _ _ _ _ _ _ _ _ _ _ (wb.alloc (.cells #[.int .i64 (r : Int)] 3)) _ hL4 rfl rfl ?_ ?_ hDH.out ?_ ?_ ?_ ?_
      · rw [← hszA]; exact Blk.new _ _ _
      · omega
      · exact hXA.alloc _
      · exact hYA.alloc _
      · exact Fr.belowR (Fr.refl _ _) ((Below.refl _ _).alloc (Nat.le_refl _) _)
      · intro v15 v16 XL2 YL2 t17 t18 t71 t72 t73 t74 t75 t76 t77 t78 t79 t80 t81 t82 t83 t84 t85 t86 t87 t88 t89 t90 t91 t92 t93 t94 t95 t96 t97 t98 t99 t100 t101 t102 t103 t104 t105 t106 t107 t108 t109 t110 t111 t112 t113 t114 t115 t116 t117 t118 t119 t120 t121 t122 t123 t124 t125 t126 t127 t128 t129 t130 t131 t132 t133 t134 t135 t136 t137 t138 w5 hD5 hX5 hY5 hF5
        have hD5H := Lib.hid hD5
        clear hD5
        go_wp2_with (fail)
        go_roundw
        case rel => exact ⟨r + 1, XL2, YL2, by omega, by go_num, hD5H, hX5, hY5, Fr.trans (Fr.belowR hF hbA) hF5⟩
        case measure => simp only [intOf]; omega
    · have hlti : ¬ (r : Int) < R := by omega
      obtain rfl : r = R := by omega
      go_wp2_with (fail)
      exact hexit _ XL YL _ _ _ _ _ _ _ _ _ _ _ _ _ _ _ _ _ _ _ _ _ _ _ _ _ _ _ _ _ _ _ _ _ _ _ _ _ _ _ _ _ _ _ _ _ _ _ _ _ _ _ _ _ _ _ _ _ _ _ _ _ _ _ _ _ _ _ _ _ _ _ _ _ _ _ _ _ hDH.out hX hY hF
end Pk
end Go.Proofs.YtbgakdpbglpfaaaGreatDoor
-- the text PkH
namespace Go.Proofs.YtbgakdpbglpfaaaGreatDoor
open Go.RowKit
namespace Pk
open Bu (natI natI_at)
/-- pairs of sizes and stock -/
def prs (ss ms : List Nat) : List (Nat × Nat) := ss.zip ms
theorem made_size (u : Value) (n : Nat) : (madeCells #[u] n).size = n := by
  rw [← Array.length_toList, toList_madeCells_one, List.length_replicate]
theorem prs_at {ss ms : List Nat} {k s m : Nat} (h1 : ss[k]? = some s) (h2 : ms[k]? = some m) : (prs ss ms)[k]? = some (s, m) := by
  rw [prs, List.getElem?_zip_eq_some]
  exact ⟨h1, h2⟩
/-- the rows that are chosen from the m-th size on -/
def Cho (w : World) (ps : List (Nat × Nat)) (N : Nat) (CS : Array Value) (m : Nat) : Prop := CS.size = ps.length ∧
  ∀ k p, m ≤ k → ps[k]? = some p → ∃ Y, CS[k]? = some (.slice (some ⟨Y, 0, none⟩) (N + 1) (N + 1)) ∧ Blk w Y 3 (intArr (stepB (fewL N (ps.drop (k + 1))) p.1 p.2 N))
theorem Cho.below {w w' : World} {ps : List (Nat × Nat)} {N m B : Nat} {CS : Array Value} (h : Cho w ps N CS m) (hB : w.heap.size ≤ B) (hb : Below B w w') : Cho w' ps N CS m :=
  ⟨h.1, fun k p hk hp => by
    obtain ⟨Y, h1, h2⟩ := h.2 k p hk hp
    exact ⟨Y, h1, h2.below hb (Nat.lt_of_lt_of_le h2.lt hB)⟩⟩
/-- what stands ahead of a size's round -/
structure L2 (w wr : World) (T : Array Value) (g2 g6 gC : Nat) (ps : List (Nat × Nat)) (N m F : Nat) (CS : Array Value) : Prop where
  st : Blk wr g2 152 T
  six : Blk wr g6 40 #[.slice (some ⟨F, 0, none⟩) (N + 1) (N + 1)]
  row : Blk wr F 3 (intArr (fewL N (ps.drop m)))
  ch : Blk wr gC 40 CS
  cho : Cho wr ps N CS m
  be : Below w.heap.size w wr
theorem L2.below {w wr wr' : World} {T : Array Value} {g2 g6 gC : Nat} {ps : List (Nat × Nat)} {N m F : Nat} {CS : Array Value} (h : L2 w wr T g2 g6 gC ps N m F CS) (hb : Below wr.heap.size wr wr') : L2 w wr' T g2 g6 gC ps N m F CS :=
  ⟨h.st.callee hb, h.six.callee hb, h.row.callee hb, h.ch.callee hb, h.cho.below (Nat.le_refl _) hb, h.be.trans (hb.mono h.be.size)⟩
theorem Blk.fr {S : Nat → Prop} {w w' : World} {g : Nat} {t : TypeId} {cs : Array Value} (h : Blk w g t cs) (hF : Fr S w w') (hS : ¬ S g) : Blk w' g t cs := (hF.block g h.lt hS).trans h
theorem L2.done {w w12 w13 w5 : World} {T : Array Value} {g2 g6 gC : Nat} {ps : List (Nat × Nat)} {N k F X Y s mo : Nat} {CS : Array Value} (h : L2 w w12 T g2 g6 gC ps N (k + 1) F CS) (hb : Below w12.heap.size w12 w13) (hgX : w12.heap.size ≤ X) (hgY : w12.heap.size ≤ Y)
    (hF : Fr (fun i => i = X ∨ i = Y) w13 w5) (hX : Blk w5 X 3 (intArr (stepF (fewL N (ps.drop (k + 1))) s mo N))) (hY : Blk w5 Y 3 (intArr (stepB (fewL N (ps.drop (k + 1))) s mo N))) (hpk : ps[k]? = some (s, mo))
    (hge6 : w.heap.size ≤ g6) (hgeC : w.heap.size ≤ gC) (hne : g6 ≠ gC) :
    L2 w ((w5.setCell ⟨g6, 0, none⟩ (.slice (some ⟨X, 0, none⟩) (N + 1) (N + 1))).setCell ⟨gC, k, none⟩ (.slice (some ⟨Y, 0, none⟩) (N + 1) (N + 1))) T g2 g6 gC ps N k X (CS.setIfInBounds k (.slice (some ⟨Y, 0, none⟩) (N + 1) (N + 1))) := by
  have hdrop : ps.drop k = (s, mo) :: ps.drop (k + 1) := by
    obtain ⟨hk, he⟩ := List.getElem?_eq_some_iff.1 hpk
    rw [List.drop_eq_getElem_cons hk, he]
  have m5 : ∀ {g : Nat} {t : TypeId} {cs : Array Value}, Blk w12 g t cs → Blk w5 g t cs := fun {g _ _} hg => by
    have hl := hg.lt
    exact Blk.fr (hg.callee hb) hF (by show ¬ (g = X ∨ g = Y); omega)
  have hst := m5 h.st
  have hsix := m5 h.six
  have hch := m5 h.ch
  have n1 : g2 ≠ g6 := hst.ne_ hsix (by decide)
  have n2 : g2 ≠ gC := hst.ne_ hch (by decide)
  have far : ∀ {g : Nat} {cs : Array Value}, Blk w5 g 3 cs → Blk ((w5.setCell ⟨g6, 0, none⟩ (.slice (some ⟨X, 0, none⟩) (N + 1) (N + 1))).setCell ⟨gC, k, none⟩ (.slice (some ⟨Y, 0, none⟩) (N + 1) (N + 1))) g 3 cs := fun hg =>
    (hg.far (p := ⟨g6, 0, none⟩) (hg.ne_ hsix (by decide)) _).far (p := ⟨gC, k, none⟩) (hg.ne_ hch (by decide)) _
  refine ⟨(hst.far (p := ⟨g6, 0, none⟩) n1 _).far (p := ⟨gC, k, none⟩) n2 _, ?_, ?_, ?_, ⟨?_, fun k' p hk' hp => ?_⟩, ?_⟩
  · exact (hsix.set_ 0 (.slice (some ⟨X, 0, none⟩) (N + 1) (N + 1))).far (p := ⟨gC, k, none⟩) hne _
  · rw [hdrop, fewL]
    exact far hX
  · exact (hch.far (p := ⟨g6, 0, none⟩) (Ne.symm hne) _).set_ k _
  · rw [Array.size_setIfInBounds]; exact h.cho.1
  · have hksz : k < CS.size := by
      rw [h.cho.1]
      exact (List.getElem?_eq_some_iff.1 hpk).1
    by_cases he : k = k'
    · subst he
      rw [hpk] at hp
      injection hp with hp
      subst hp
      exact ⟨Y, by rw [Array.getElem?_setIfInBounds, if_pos rfl, if_pos hksz], far hY⟩
    · obtain ⟨Y', h1, h2⟩ := h.cho.2 k' p (by omega) hp
      exact ⟨Y', by rw [Array.getElem?_setIfInBounds, if_neg he]; exact h1, far (m5 h2)⟩
  · have h12 := h.be.size
    exact ((hF.below (h.be.trans (hb.mono h12)) (Nat.le_trans h12 hb.size) (fun i (hi : i = X ∨ i = Y) => by omega)).setCell (p := ⟨g6, 0, none⟩) hge6 _).setCell (p := ⟨gC, k, none⟩) hgeC _
set_option maxRecDepth 100000 in
set_option maxHeartbeats 400000 in
theorem loop2 (A : Option Addr) (K c : Nat) (A2 : Option Addr) (c2 : Nat) (ss ms : List Nat) (hS : Stk ss ms) (N : Nat) (hN : N ≤ 1000) (w : World) (B : Nat) (hB : B ≤ w.heap.size) (hr : RInts w B A K (natI ss)) (hr2 : RInts w B A2 K (natI ms))
    (T : Array Value) (hT0 : T[0]? = some (.slice A K c)) (hT1 : T[1]? = some (.slice A2 K c2)) (ps : List (Nat × Nat)) (hps : prs ss ms = ps) (hpl : ps.length = K) (hK5 : K ≤ 5)
    (g2 g6 gC : Nat) (hge6 : w.heap.size ≤ g6) (hgeC : w.heap.size ≤ gC) (hne : g6 ≠ gC)
    (v9 : Value) (s0 s3 s4 s5 s7 s10 s11 s12 s13 s14 s15 s16 s17 s18 s19 s20 s21 s22 s23 s24 s25 s26 s27 s28 s29 s30 s31 s32 s33 s34 s35 s36 s37 s38 s39 s40 s41 s42 s43 s44 s45 s46 s47 s48 s49 s50 s51 s52 s53 s54 s55 s56 s57 s58 s59 s60 s61 s62 s63 s64 s65 s66 s67 s68 s69 s70 s71 s72 s73 s74 s75 s76 s77 s78 s79 s80 s81 s82 s83 s84 s85 s86 s87 s88 s89 s90 s91 s92 s93 s94 s95 s96 s97 s98 s99 s100 s101 s102 s103 s104 s105 s106 s107 s108 s109 s110 s111 s112 s113 s114 s115 s116 s117 s118 s119 s120 s121 s122 s123 s124 s125 s126 s127 s128 s129 s130 s131 s132 s133 s134 s135 s136 s137 s138 s139 s140 s141 s142 s143 s144 s145 s146 s147 s148 s149 s150 s151 s152 s153 s154 s155 s156 s157 s158 s159 s160 s161 s162 s163 s164 s165 s166 s167 s168 s169 s170 s171 s172 s173 s174 s175 s176 s177 : Value) (Q0 : Exit → Act → World → Prop) (w0 : World) (F0 : Nat) (CS0 : Array Value) (h9 : v9 = .int .i64 ((K : Int) - 1)) (hL0 : L2 w w0 T g2 g6 gC ps N K F0 CS0)
    (hexit : ∀ (v : Value) (F : Nat) (CS : Array Value) (u10 u11 u12 u13 u14 u15 u16 u17 u18 u44 u45 u46 u47 u48 u49 u50 u51 u52 u53 u54 u55 u56 u57 u58 u59 u60 u61 u62 u63 u64 u65 u66 u67 u68 u69 u70 u71 u72 u73 u74 u75 u76 u77 u78 u79 u80 u81 u82 u83 u84 u85 u86 u87 u88 u89 u90 u91 u92 u93 u94 u95 u96 u97 u98 u99 u100 u101 u102 u103 u104 u105 u106 u107 u108 u109 u110 u111 u112 u113 u114 u115 u116 u117 u118 u119 u120 u121 u122 u123 u124 u125 u126 u127 u128 u129 u130 u131 u132 u133 u134 u135 u136 u137 u138 u139 u140 u141 u142 u143 u144 : Value) (w' : World), L2 w w' T g2 g6 gC ps N 0 F CS → Q0 (.exit 2) ⟨(s0 :: (.int .i64 (N : Int)) :: (.pointer (some ⟨g2, 0, none⟩)) :: s3 :: s4 :: s5 :: (.pointer (some ⟨g6, 0, none⟩)) :: s7 :: (.slice (some ⟨gC, 0, none⟩) K K) :: v :: u10 :: u11 :: u12 :: u13 :: u14 :: u15 :: u16 :: u17 :: u18 :: s19 :: s20 :: s21 :: s22 :: s23 :: s24 :: s25 :: s26 :: s27 :: s28 :: s29 :: s30 :: s31 :: s32 :: s33 :: s34 :: s35 :: s36 :: s37 :: s38 :: s39 :: s40 :: s41 :: s42 :: s43 :: u44 :: u45 :: u46 :: u47 :: u48 :: u49 :: u50 :: u51 :: u52 :: u53 :: u54 :: u55 :: u56 :: u57 :: u58 :: u59 :: u60 :: u61 :: u62 :: u63 :: u64 :: u65 :: u66 :: u67 :: u68 :: u69 :: u70 :: u71 :: u72 :: u73 :: u74 :: u75 :: u76 :: u77 :: u78 :: u79 :: u80 :: u81 :: u82 :: u83 :: u84 :: u85 :: u86 :: u87 :: u88 :: u89 :: u90 :: u91 :: u92 :: u93 :: u94 :: u95 :: u96 :: u97 :: u98 :: u99 :: u100 :: u101 :: u102 :: u103 :: u104 :: u105 :: u106 :: u107 :: u108 :: u109 :: u110 :: u111 :: u112 :: u113 :: u114 :: u115 :: u116 :: u117 :: u118 :: u119 :: u120 :: u121 :: u122 :: u123 :: u124 :: u125 :: u126 :: u127 :: u128 :: u129 :: u130 :: u131 :: u132 :: u133 :: u134 :: u135 :: u136 :: u137 :: u138 :: u139 :: u140 :: u141 :: u142 :: u143 :: u144 :: s145 :: s146 :: s147 :: s148 :: s149 :: s150 :: s151 :: s152 :: s153 :: s154 :: s155 :: s156 :: s157 :: s158 :: s159 :: s160 :: s161 :: s162 :: s163 :: s164 :: s165 :: s166 :: s167 :: s168 :: s169 :: s170 :: s171 :: s172 :: s173 :: s174 :: s175 :: s176 :: s177 :: []).toArray, []⟩ w') :
    Code.wp Tryz.prog (Code.loop (lp 1)) Q0 ⟨(s0 :: (.int .i64 (N : Int)) :: (.pointer (some ⟨g2, 0, none⟩)) :: s3 :: s4 :: s5 :: (.pointer (some ⟨g6, 0, none⟩)) :: s7 :: (.slice (some ⟨gC, 0, none⟩) K K) :: v9 :: s10 :: s11 :: s12 :: s13 :: s14 :: s15 :: s16 :: s17 :: s18 :: s19 :: s20 :: s21 :: s22 :: s23 :: s24 :: s25 :: s26 :: s27 :: s28 :: s29 :: s30 :: s31 :: s32 :: s33 :: s34 :: s35 :: s36 :: s37 :: s38 :: s39 :: s40 :: s41 :: s42 :: s43 :: s44 :: s45 :: s46 :: s47 :: s48 :: s49 :: s50 :: s51 :: s52 :: s53 :: s54 :: s55 :: s56 :: s57 :: s58 :: s59 :: s60 :: s61 :: s62 :: s63 :: s64 :: s65 :: s66 :: s67 :: s68 :: s69 :: s70 :: s71 :: s72 :: s73 :: s74 :: s75 :: s76 :: s77 :: s78 :: s79 :: s80 :: s81 :: s82 :: s83 :: s84 :: s85 :: s86 :: s87 :: s88 :: s89 :: s90 :: s91 :: s92 :: s93 :: s94 :: s95 :: s96 :: s97 :: s98 :: s99 :: s100 :: s101 :: s102 :: s103 :: s104 :: s105 :: s106 :: s107 :: s108 :: s109 :: s110 :: s111 :: s112 :: s113 :: s114 :: s115 :: s116 :: s117 :: s118 :: s119 :: s120 :: s121 :: s122 :: s123 :: s124 :: s125 :: s126 :: s127 :: s128 :: s129 :: s130 :: s131 :: s132 :: s133 :: s134 :: s135 :: s136 :: s137 :: s138 :: s139 :: s140 :: s141 :: s142 :: s143 :: s144 :: s145 :: s146 :: s147 :: s148 :: s149 :: s150 :: s151 :: s152 :: s153 :: s154 :: s155 :: s156 :: s157 :: s158 :: s159 :: s160 :: s161 :: s162 :: s163 :: s164 :: s165 :: s166 :: s167 :: s168 :: s169 :: s170 :: s171 :: s172 :: s173 :: s174 :: s175 :: s176 :: s177 :: []).toArray, []⟩ w0 := by
  conv => arg 2; arg 1; whnf
  have hSH := Lib.hid hS
  have hpsH := Lib.hid hps
  have hmk := run_make_row' (P := Tryz.prog) 40 3 (.int .i64 0) 8 Tryz.underlying40 infoInt rfl .i64 .i64 (N + 1) (by omega) (by omega)
  have hN1 : ((N + 1 : Nat) : Int) = (N : Int) + 1 := by omega
  rw [hN1] at hmk
  clear hS hps hN1
  go_loopw [9] (fun v wr => ∃ (m F : Nat) (CS : Array Value), m ≤ K ∧ v = .int .i64 ((m : Int) - 1) ∧ L2 w wr T g2 g6 gC ps N m F CS) (fun v _ => (intOf v + 1).toNat)
  case atStart => exact ⟨K, F0, _, Nat.le_refl _, h9, hL0⟩
  case round =>
    clear hL0 h9
    obtain ⟨m, F, CS, hm, hv, hL⟩ := hrel
    cases m with
    | succ k =>
      have hv2 := hv.trans (show Value.int .i64 (((k + 1 : Nat) : Int) - 1) = Value.int .i64 (k : Int) by congr 1; omega)
      clear hv
      subst hv2
      have hb := hL.be
      obtain ⟨ad, z, rfl, hadb, hcs, hz⟩ := (hr.later hB hb).at_ (show k < K by omega)
      obtain ⟨s, hs, rfl⟩ := natI_at hz.out
      obtain ⟨ad2, z2, rfl, hadb2, hcm, hz2⟩ := (hr2.later hB hb).at_ (show k < K by omega)
      obtain ⟨mo, hmo, rfl⟩ := natI_at hz2.out
      have hsr := hSH.out.siz.rng s (List.mem_of_getElem? hs)
      have hmor := hSH.out.rng mo (List.mem_of_getElem? hmo)
      have hpk := prs_at hs hmo
      rw [hpsH.out] at hpk
      clear hs hmo hz hz2
      have hc20 : wr.cell? ⟨g2, 0, none⟩ = some (.slice (some ad) K c) := by rw [hL.st.cell]; exact hT0
      have hc21 : wr.cell? ⟨g2, 1, none⟩ = some (.slice (some ad2) K c2) := by rw [hL.st.cell]; exact hT1
      have hcsA : ∀ u : Int, (wr.alloc (.cells #[.int .i64 u] 3)).cell? (ad.add k) = some (.int .i64 (s : Int)) := by
        intro u; rw [World.cell?_alloc_lt _ _ _ (by rw [block_of_add]; have := hb.size; omega)]; exact hcs
      have hcmA : ∀ u : Int, (wr.alloc (.cells #[.int .i64 u] 3)).cell? (ad2.add k) = some (.int .i64 (mo : Int)) := by
        intro u; rw [World.cell?_alloc_lt _ _ _ (by rw [block_of_add]; have := hb.size; omega)]; exact hcm
      have hc20A : ∀ u : Int, (wr.alloc (.cells #[.int .i64 u] 3)).cell? ⟨g2, 0, none⟩ = some (.slice (some ad) K c) := fun u => ((hL.st.alloc _).cell 0).trans hT0
      have hc21A : ∀ u : Int, (wr.alloc (.cells #[.int .i64 u] 3)).cell? ⟨g2, 1, none⟩ = some (.slice (some ad2) K c2) := fun u => ((hL.st.alloc _).cell 1).trans hT1
      have hki : (k : Int) < K := by omega
      have hk0 : (0 : Int) ≤ k := by omega
      obtain ⟨wk, rfl⟩ : ∃ x, x = wr := ⟨wr, rfl⟩
      go_upto_region 12 with (fail)
      go_region_held3 (fun w' => w'.cell? ⟨g2, 0, none⟩ = some (.slice (some ad) K c) ∧ w'.cell? ⟨g2, 1, none⟩ = some (.slice (some ad2) K c2) ∧ w'.cell? (ad.add k) = some (.int .i64 (s : Int)) ∧ w'.cell? (ad2.add k) = some (.int .i64 (mo : Int)))
        (first | exact ⟨hc20, hc21, hcs, hcm⟩ | exact ⟨hc20A _, hc21A _, hcsA _, hcmA _⟩)
        (first | fail)
      have h10 : Blk (wk.alloc (.cells #[.int .i64 (s : Int)] 3)).drew wk.heap.size 3 #[.int .i64 (s : Int)] := Blk.new wk _ _
      have hb12 : Below wk.heap.size wk (wk.alloc (.cells #[.int .i64 (s : Int)] 3)).drew := ((Below.refl wk.heap.size wk).alloc (Nat.le_refl _) _).drew
      have hlt10 := h10.lt
      clear hcsA hcmA hc20A hc21A hc20 hc21 hcs hcm
      have hL12 := hL.below hb12
      have hge10 : w.heap.size ≤ wk.heap.size := hb.size
      clear hb hb12 hL
      generalize (wk.alloc (.cells #[.int .i64 (s : Int)] 3)).drew = w12 at *
      generalize wk.heap.size = g10 at *
      clear wk
      go_upto_region 13 with (fail)
      go_cut [12, 13] from 58 to 63 (fun v12 v13 wx => ∃ X Y : Nat, v12 = .slice (some ⟨X, 0, none⟩) (N + 1) (N + 1) ∧ v13 = .slice (some ⟨Y, 0, none⟩) (N + 1) (N + 1) ∧ Blk wx X 3 (intArr (List.replicate (N + 1) 0)) ∧ Blk wx Y 3 (intArr (List.replicate (N + 1) 0)) ∧ X ≠ Y ∧ w12.heap.size ≤ X ∧ w12.heap.size ≤ Y ∧ Below w12.heap.size w12 wx)
      case first =>
        go_region
        all_goals (try rw [intArr_made])
        all_goals go_wp2_with (fail)
        all_goals go_meet
        · exact ⟨_, _, rfl, rfl, heap_alloc2_old _ _ _, heap_alloc2_new _ _ _, by omega, by omega, by omega, (((Below.refl w12.heap.size w12).alloc (Nat.le_refl _) _).alloc (by simp) _).drew⟩
        · exact ⟨_, _, rfl, rfl, heap_alloc2_new _ _ _, heap_alloc2_old _ _ _, by omega, by omega, by omega, (((Below.refl w12.heap.size w12).alloc (Nat.le_refl _) _).alloc (by simp) _).drew⟩
      case rest =>
        obtain ⟨X, Y, rfl, rfl, hX, hY, hXY, hgX, hgY, hb13⟩ := hcut
        obtain ⟨w13, rfl⟩ : ∃ x, x = wc := ⟨wc, rfl⟩
        have hL13 := hL12.below hb13
        have h10c := h10.callee hb13
        have hl6 := hL12.six.lt
        have hlF := hL12.row.lt
        clear h10 hmk
        have hc10 : w13.cell? ⟨g10, 0, none⟩ = some (.int .i64 (s : Int)) := h10c.cell 0
        obtain ⟨R, hR⟩ : ∃ R, min s (N + 1) = R := ⟨_, rfl⟩
        have hRH := Lib.hid hR
        have hRs : R ≤ s := by omega
        have hmn : min (s : Int) ((N : Int) + 1) = R := by omega
        clear hR
        have hL3 : L3 w13 g6 g10 F X Y N (fewL N (ps.drop (k + 1))) s :=
          ⟨hL13.six.cell 0, hc10, fun x hx => by
            have hlen := few_len N (ps.drop (k + 1))
            rw [hL13.row.cell, intArr_at, List.getD_eq_getElem?_getD, List.getElem?_eq_getElem (by omega)]
            rfl, by omega, by omega, by omega, hXY, hX.lt, hY.lt⟩
        have hlen0 := hX.lt
        clear hlen0
        go_wp2_with (fail)
        clear hmn
        refine loop3 N g6 g10 F X Y s mo R (fewL N (ps.drop (k + 1))) _ _ hN hsr hmor hRs (few_rng N _) _ _ _ _ _ _ _ _ _ _ _ _ _ _ _ _ _ _ _ _ _ _ _ _ _ _ _ _ _ _ _ _ _ _ _ _ _ _ _ _ _ _ _ _ _ _ _ _ _ _ _ _ _ _ _ _ _ _ _ _ _ _ _ _ _ _ _ _ _ _ _ _ _ _ _ _ _ _ _ _ _ _ _ _ _ _ _ _ _ _ _ _ _ _ _ _ _ _ _ _ _ _ _ _ _ _ _ _ _ _ _ _ _ _ _ _ _ _ _ _ _ _ _ _ _ _ _ _ _ _ _ _ _ _ _ _ _ _ _ _ _ _ _ _ _ _ _ _ _ _ _ _ _ _ _ _ _ _ _ _ _ _ _ _ _ _ _ _ _ _ _ _ w13 hL3 rfl (Dn.start _ _ _ _) hX hY ?_
        intro v68 XL YL t14 t15 t16 t17 t18 t69 t70 t71 t72 t73 t74 t75 t76 t77 t78 t79 t80 t81 t82 t83 t84 t85 t86 t87 t88 t89 t90 t91 t92 t93 t94 t95 t96 t97 t98 t99 t100 t101 t102 t103 t104 t105 t106 t107 t108 t109 t110 t111 t112 t113 t114 t115 t116 t117 t118 t119 t120 t121 t122 t123 t124 t125 t126 t127 t128 t129 t130 t131 t132 t133 t134 t135 t136 t137 t138 t139 w5 hD5 hX5 hY5 hF5
        obtain ⟨rfl, rfl⟩ := hD5.whole hsr.1 (Nat.le_of_eq hRH.out)
        have hL6 := Lib.hid (L2.done hL12 hb13 hgX hgY hF5 hX5 hY5 hpk hge6 hgeC hne)
        have hsix5 := Blk.fr hL13.six hF5 (by show ¬ (g6 = X ∨ g6 = Y); omega)
        have hlC := hL12.ch.lt
        have hch5 := Blk.fr hL13.ch hF5 (by show ¬ (gC = X ∨ gC = Y); omega)
        have hc65 : w5.cell? ⟨g6, 0, none⟩ = some (.slice (some ⟨F, 0, none⟩) (N + 1) (N + 1)) := hsix5.cell 0
        have hf65 := hsix5.frozen 0
        have hfC5 := hch5.frozen k
        have hkC : k < CS.size := by rw [hL12.cho.1]; omega
        have hcC5 : w5.cell? ⟨gC, k, none⟩ = some CS[k] := by rw [hch5.cell]; exact Array.getElem?_eq_getElem hkC
        generalize CS[k] = uC at *
        clear hX hY hX5 hY5 hF5 hL13 hL12 hb13 hL3 h10c hc10 hD5 hsix5 hch5
        go_wp2_with (fail)
        go_roundw
        case rel => exact ⟨k, X, _, by omega, rfl, hL6.out⟩
        case measure => simp only [intOf]; omega
    | zero =>
      have hv2 := hv.trans (show Value.int .i64 (((0 : Nat) : Int) - 1) = Value.int .i64 (-1) from rfl)
      clear hv
      subst hv2
      go_wp2_with (fail)
      exact hexit _ F CS _ _ _ _ _ _ _ _ _ _ _ _ _ _ _ _ _ _ _ _ _ _ _ _ _ _ _ _ _ _ _ _ _ _ _ _ _ _ _ _ _ _ _ _ _ _ _ _ _ _ _ _ _ _ _ _ _ _ _ _ _ _ _ _ _ _ _ _ _ _ _ _ _ _ _ _ _ _ _ _ _ _ _ _ _ _ _ _ _ _ _ _ _ _ _ _ _ _ _ _ _ _ _ _ _ _ _ _ _ _ _ hL
end Pk
end Go.Proofs.YtbgakdpbglpfaaaGreatDoor
-- the text PkI
namespace Go.Proofs.YtbgakdpbglpfaaaGreatDoor
open Go.RowKit
namespace Pk
open Bu (natI natI_at)
set_option maxRecDepth 100000 in
set_option maxHeartbeats 1000000 in
theorem loop6 (A : Option Addr) (K c : Nat) (ss ms : List Nat) (hS : Stk ss ms) (N : Nat) (hN : N ≤ 1000) (B : Nat) (w0 : World) (hB : B ≤ w0.heap.size) (hr : RInts w0 B A K (natI ss))
    (T : Array Value) (hT0 : T[0]? = some (.slice A K c)) (ps : List (Nat × Nat)) (hps : prs ss ms = ps) (hpl : ps.length = K) (hK5 : K ≤ 5)
    (g2 gC : Nat) (CS : Array Value) (h2 : Blk w0 g2 152 T) (hC : Blk w0 gC 40 CS) (hcho : Cho w0 ps N CS 0)
    (v1 v19 v152 : Value) (s0 s3 s4 s5 s6 s7 s8 s9 s10 s11 s12 s13 s14 s15 s16 s17 s18 s20 s21 s22 s23 s24 s25 s26 s27 s28 s29 s30 s31 s32 s33 s34 s35 s36 s37 s38 s39 s40 s41 s42 s43 s44 s45 s46 s47 s48 s49 s50 s51 s52 s53 s54 s55 s56 s57 s58 s59 s60 s61 s62 s63 s64 s65 s66 s67 s68 s69 s70 s71 s72 s73 s74 s75 s76 s77 s78 s79 s80 s81 s82 s83 s84 s85 s86 s87 s88 s89 s90 s91 s92 s93 s94 s95 s96 s97 s98 s99 s100 s101 s102 s103 s104 s105 s106 s107 s108 s109 s110 s111 s112 s113 s114 s115 s116 s117 s118 s119 s120 s121 s122 s123 s124 s125 s126 s127 s128 s129 s130 s131 s132 s133 s134 s135 s136 s137 s138 s139 s140 s141 s142 s143 s144 s145 s146 s147 s148 s149 s153 s154 s155 s156 s157 s158 s159 s160 s161 s162 s163 s164 s165 s166 s167 s168 s169 s170 s171 s172 s173 s174 s175 s176 s177 : Value) (Q0 : Exit → Act → World → Prop) (h1 : v1 = .int .i64 (N : Int)) (h19 : v19 = .slice none 0 0) (h152 : v152 = .int .i64 0)
    (hexit : ∀ (z1 v z152 u20 u21 u153 u154 u155 u156 u157 u158 u159 u160 u161 u162 u163 u164 u165 u166 u167 u168 u169 u170 u171 u172 u173 u174 u175 u176 : Value) (w' : World), OwnI w' w0.heap.size v (takeL N ps N) → Below w0.heap.size w0 w' → Q0 (.exit 10) ⟨(s0 :: z1 :: (.pointer (some ⟨g2, 0, none⟩)) :: s3 :: s4 :: s5 :: s6 :: s7 :: s8 :: s9 :: s10 :: s11 :: s12 :: s13 :: s14 :: s15 :: s16 :: s17 :: s18 :: v :: u20 :: u21 :: s22 :: s23 :: s24 :: s25 :: s26 :: s27 :: s28 :: s29 :: s30 :: s31 :: s32 :: s33 :: s34 :: s35 :: s36 :: s37 :: s38 :: s39 :: s40 :: s41 :: s42 :: s43 :: s44 :: s45 :: s46 :: s47 :: s48 :: s49 :: s50 :: s51 :: s52 :: s53 :: s54 :: s55 :: s56 :: s57 :: s58 :: s59 :: s60 :: s61 :: s62 :: s63 :: s64 :: s65 :: s66 :: s67 :: s68 :: s69 :: s70 :: s71 :: s72 :: s73 :: s74 :: s75 :: s76 :: s77 :: s78 :: s79 :: s80 :: s81 :: s82 :: s83 :: s84 :: s85 :: s86 :: s87 :: s88 :: s89 :: s90 :: s91 :: s92 :: s93 :: s94 :: s95 :: s96 :: s97 :: s98 :: s99 :: s100 :: s101 :: s102 :: s103 :: s104 :: s105 :: s106 :: s107 :: s108 :: s109 :: s110 :: s111 :: s112 :: s113 :: s114 :: s115 :: s116 :: s117 :: s118 :: s119 :: s120 :: s121 :: s122 :: s123 :: s124 :: s125 :: s126 :: s127 :: s128 :: s129 :: s130 :: s131 :: s132 :: s133 :: s134 :: s135 :: s136 :: s137 :: s138 :: s139 :: s140 :: s141 :: s142 :: s143 :: s144 :: s145 :: s146 :: s147 :: s148 :: s149 :: (.slice (some ⟨gC, 0, none⟩) K K) :: (.int .i64 (K : Int)) :: z152 :: u153 :: u154 :: u155 :: u156 :: u157 :: u158 :: u159 :: u160 :: u161 :: u162 :: u163 :: u164 :: u165 :: u166 :: u167 :: u168 :: u169 :: u170 :: u171 :: u172 :: u173 :: u174 :: u175 :: u176 :: s177 :: []).toArray, []⟩ w') :
    Code.wp Tryz.prog (Code.loop (lp 5)) Q0 ⟨(s0 :: v1 :: (.pointer (some ⟨g2, 0, none⟩)) :: s3 :: s4 :: s5 :: s6 :: s7 :: s8 :: s9 :: s10 :: s11 :: s12 :: s13 :: s14 :: s15 :: s16 :: s17 :: s18 :: v19 :: s20 :: s21 :: s22 :: s23 :: s24 :: s25 :: s26 :: s27 :: s28 :: s29 :: s30 :: s31 :: s32 :: s33 :: s34 :: s35 :: s36 :: s37 :: s38 :: s39 :: s40 :: s41 :: s42 :: s43 :: s44 :: s45 :: s46 :: s47 :: s48 :: s49 :: s50 :: s51 :: s52 :: s53 :: s54 :: s55 :: s56 :: s57 :: s58 :: s59 :: s60 :: s61 :: s62 :: s63 :: s64 :: s65 :: s66 :: s67 :: s68 :: s69 :: s70 :: s71 :: s72 :: s73 :: s74 :: s75 :: s76 :: s77 :: s78 :: s79 :: s80 :: s81 :: s82 :: s83 :: s84 :: s85 :: s86 :: s87 :: s88 :: s89 :: s90 :: s91 :: s92 :: s93 :: s94 :: s95 :: s96 :: s97 :: s98 :: s99 :: s100 :: s101 :: s102 :: s103 :: s104 :: s105 :: s106 :: s107 :: s108 :: s109 :: s110 :: s111 :: s112 :: s113 :: s114 :: s115 :: s116 :: s117 :: s118 :: s119 :: s120 :: s121 :: s122 :: s123 :: s124 :: s125 :: s126 :: s127 :: s128 :: s129 :: s130 :: s131 :: s132 :: s133 :: s134 :: s135 :: s136 :: s137 :: s138 :: s139 :: s140 :: s141 :: s142 :: s143 :: s144 :: s145 :: s146 :: s147 :: s148 :: s149 :: (.slice (some ⟨gC, 0, none⟩) K K) :: (.int .i64 (K : Int)) :: v152 :: s153 :: s154 :: s155 :: s156 :: s157 :: s158 :: s159 :: s160 :: s161 :: s162 :: s163 :: s164 :: s165 :: s166 :: s167 :: s168 :: s169 :: s170 :: s171 :: s172 :: s173 :: s174 :: s175 :: s176 :: s177 :: []).toArray, []⟩ w0 := by
  conv => arg 2; arg 1; whnf
  have hSH := Lib.hid hS
  have hpsH := Lib.hid hps
  obtain ⟨R, hR⟩ : ∃ R, takeL N ps N = R := ⟨_, rfl⟩
  rw [hR] at hexit
  have hRH := Lib.hid hR
  have hchH := Lib.hid hcho
  clear hS hps hR hcho
  go_loopw [1, 19, 152] (fun a v q wr => ∃ (i x : Nat) (acc : List Int), i ≤ K ∧ x ≤ N ∧ a = .int .i64 x ∧ q = .int .i64 i ∧ acc.length = i ∧ OwnI wr w0.heap.size v acc ∧ Hid (acc ++ takeL N (ps.drop i) x = R) ∧ Below w0.heap.size w0 wr) (fun _ _ v _ => K - (intOf v).toNat)
  case atStart => exact ⟨0, N, [], by omega, Nat.le_refl _, h1, h152, rfl, by rw [h19]; exact OwnI.nil _ _, Lib.hid (by rw [List.nil_append, List.drop_zero]; exact hRH.out), Below.refl _ _⟩
  case round =>
    clear h1 h19 h152
    obtain ⟨i, x, acc, hi, hxN, rfl, rfl, hal, ho, hE, hb⟩ := hrel
    obtain ⟨wb, rfl⟩ : ∃ x, x = wr := ⟨wr, rfl⟩
    by_cases hlt : i < K
    · have hlti : (i : Int) < K := by omega
      have hi0 : (0 : Int) ≤ i := by omega
      obtain ⟨ad, z, rfl, hadb, hcs, hz⟩ := hr.at_ hlt
      obtain ⟨s, hs, rfl⟩ := natI_at hz.out
      obtain ⟨⟨s', mo⟩, hpk⟩ : ∃ p, ps[i]? = some p := ⟨_, List.getElem?_eq_getElem (by omega)⟩
      have hmo : ms[i]? = some mo ∧ s' = s := by
        have h3 := hpk
        rw [← hpsH.out, prs, List.getElem?_zip_eq_some, hs] at h3
        exact ⟨h3.2, by have := h3.1; injection this with this; exact this.symm⟩
      obtain ⟨_, rfl⟩ := hmo
      have hdrop : ps.drop i = (s', mo) :: ps.drop (i + 1) := by
        obtain ⟨hk, he⟩ := List.getElem?_eq_some_iff.1 hpk
        rw [List.drop_eq_getElem_cons hk, he]
      obtain ⟨Y, hCY, hY⟩ := hchH.out.2 i _ (Nat.zero_le _) hpk
      have hsr := hSH.out.siz.rng s' (List.mem_of_getElem? hs)
      obtain ⟨m, hm⟩ : ∃ m, manyT (fewL N (ps.drop (i + 1))) s' mo x = m := ⟨_, rfl⟩
      have hml := many_le (fewL N (ps.drop (i + 1))) s' mo x
      rw [hm] at hml
      obtain ⟨p, hp⟩ : ∃ p, m * s' = p := ⟨_, rfl⟩
      have hpm : (m : Int) * (s' : Int) = p := by rw [← hp]; simp
      rw [hp] at hml
      obtain ⟨x', hx'⟩ : ∃ x', x - p = x' := ⟨_, rfl⟩
      have hxp : (x : Int) - p = x' := by omega
      have hE1 := Lib.hid (show (acc ++ [(m : Int)]) ++ takeL N (ps.drop (i + 1)) x' = R by
        rw [← hE.out, hdrop, takeL, hm, hp, hx']; simp)
      have hmle : m ≤ 1000 := by
        have h3 := Nat.mul_le_mul_left m hsr.1
        omega
      have hcell : ∀ w', Below w0.heap.size w0 w' → w'.cell? (ad.add i) = some (.int .i64 (s' : Int)) ∧ w'.cell? ⟨gC, i, none⟩ = some (.slice (some ⟨Y, 0, none⟩) (N + 1) (N + 1)) ∧ w'.cell? ⟨Y, x, none⟩ = some (.int .i64 (m : Int)) ∧ w'.cell? ⟨g2, 0, none⟩ = some (.slice (some ad) K c) := fun w' h => by
        refine ⟨(h.cell (by rw [block_of_add]; omega)).trans hcs, ?_, ?_, ?_⟩
        · rw [(hC.below h hC.lt).cell]; exact hCY
        · rw [(hY.below h hY.lt).cell, intArr_at, stepB_at hxN, hm]; rfl
        · rw [(h2.below h h2.lt).cell]; exact hT0
      have hcellH := Lib.hid hcell
      obtain ⟨k1, k2, k3, k4⟩ := hcell wb hb
      have hx0 : (0 : Int) ≤ x := by omega
      have hx1 : (x : Int) < N + 1 := by omega
      clear hcs hz hs hpk hml hp hx' hdrop hCY hm hE hcell
      go_wp2_with (first
        | (at_builtin
           refine wpList_push rfl _ _ rfl rfl (ho.none_ (World.grownBy_alloc wb _ none)) wb.heap.size 1 (m : Int) rfl (Blk.new wb _ _) (by omega) (by show _ ≤ (wb.heap.push _).size; have := hb.size; simp; omega) ?_
           intro g6 cap6 w6 ho6 hgr6 hat6 _
           have hb6 := (hb.alloc hb.size (.cells #[.int .i64 (m : Int)] 3)).grown hgr6 (by show _ ≤ (wb.heap.push _).size; have := hb.size; simp; omega) (fun g hg => ho.ge hg)
           obtain ⟨q1, q2, q3, q4⟩ := hcellH.out w6 hb6
           clear k1 k2 k3 k4))
      go_quiet (fail)
      go_wp2_with (fail)
      go_roundw
      case rel => exact ⟨i + 1, x', acc ++ [(m : Int)], by omega, by omega, rfl, by go_num, by simp; omega, by rw [hal] at ho6; exact ho6.drewN nq, hE1, below_drewN hb6 _⟩
      case measure => simp only [intOf]; omega
    · have hlti : ¬ (i : Int) < K := by omega
      obtain rfl : i = K := by omega
      have hE2 : acc = R := by
        rw [← hE.out, List.drop_of_length_le (by omega), takeL, List.append_nil]
      rw [hE2] at ho
      clear hE2
      go_wp2_with (fail)
      exact hexit _ _ _ _ _ _ _ _ _ _ _ _ _ _ _ _ _ _ _ _ _ _ _ _ _ _ _ _ _ _ ho hb
end Pk
end Go.Proofs.YtbgakdpbglpfaaaGreatDoor
-- the text PkD
namespace Go.Proofs.YtbgakdpbglpfaaaGreatDoor
open Go.RowKit
namespace Pk
open Bu (natI natI_at)
theorem infoSl : (Tryz.prog.info? 40).map (fun i => (i.zero, i.size, i.bytes)) = some (some (.slice none 0 0), 1, 24) := by kernel_rfl
theorem own_mono {w : World} {b b' : Nat} {v : Value} {xs : List Int} (h : OwnI w b v xs) (hle : b' ≤ b) : OwnI w b' v xs := by
  refine ⟨h.1, ?_⟩
  rcases h.2 with h0 | ⟨g, cap, cur, e, hb, r⟩
  · exact .inl h0
  · exact .inr ⟨g, cap, cur, e, Nat.le_trans hle hb, r⟩
/-- what fill returns -/
def fillE (N : Nat) (ps : List (Nat × Nat)) : Int := if (fewL N ps).getD N 0 = 1001 then 12 else 0
def fillV (N : Nat) (ps : List (Nat × Nat)) : List Int := if (fewL N ps).getD N 0 = 1001 then [] else takeL N ps N
set_option maxRecDepth 100000 in
set_option maxHeartbeats 4000000 in
theorem fill_ok (A : Option Addr) (K c : Nat) (A2 : Option Addr) (c2 : Nat) (ss ms : List Nat) (hS : Stk ss ms) (N : Nat) (hN : N ≤ 1000) (w : World) (B : Nat) (hB : B ≤ w.heap.size) (hr : RInts w B A K (natI ss)) (hr2 : RInts w B A2 K (natI ms)) :
    Calls Tryz.prog 233 #[.agg (stC A K c A2 K c2), .int .i64 (N : Int)] w fun e w' => (∃ v, e = .returned (.tuple #[v, .int .i64 (fillE N (prs ss ms))]) ∧ OwnI w' w.heap.size v (fillV N (prs ss ms))) ∧ Below w.heap.size w w' := by
  have hK1 : ss.length = K := by simpa [natI] using hr.len
  have hSH := Lib.hid hS
  have h1 := hS.siz.one
  have h5 := hS.siz.five
  have hK5 : K ≤ 5 := by omega
  have hpl : (prs ss ms).length = K := by have := hS.len; simp [prs]; omega
  obtain ⟨T, hT⟩ : ∃ T, stC A K c A2 K c2 = T := ⟨_, rfl⟩
  have hT0 : T[0]? = some (.slice A K c) := by rw [← hT]; rfl
  have hT1 : T[1]? = some (.slice A2 K c2) := by rw [← hT]; rfl
  obtain ⟨ps, hps⟩ : ∃ p, prs ss ms = p := ⟨_, rfl⟩
  have hpsH := Lib.hid hps
  rw [hT, hps]
  rw [hps] at hpl
  clear hT hps hS
  obtain ⟨EE, hEE⟩ : ∃ q, fillE N ps = q := ⟨_, rfl⟩
  obtain ⟨VV, hVV⟩ : ∃ q, fillV N ps = q := ⟨_, rfl⟩
  rw [hEE, hVV]
  replace hEE := Lib.hid hEE
  replace hVV := Lib.hid hVV
  have hmk := run_make_row' (P := Tryz.prog) 40 3 (.int .i64 0) 8 Tryz.underlying40 infoInt rfl .i64 .i64 (N + 1) (by omega) (by omega)
  have hmkS := run_make_row' (P := Tryz.prog) 247 40 (.slice none 0 0) 24 Tryz.underlying247 infoSl rfl .i64 .i64 K (by omega) (by omega)
  have hN1 : ((N + 1 : Nat) : Int) = (N : Int) + 1 := by omega
  rw [hN1] at hmk
  go_enter Tryz.func233, Tryz.ntmps233
  go_wp2_with (first
    | (with_reducible show wpList _ _ _ (⟨_, .box 152 (.tmp 0), _, _, _, _⟩ :: _) _ _
       refine wpList_box_blk rfl 152 _ rfl T rfl ?_
       intro w1 g2 hG2 hgr hge
       have hb1 := below_none (Below.refl w.heap.size w) hgr (Nat.le_refl _)))
  rw [intArr_made]
  have hF0 := Blk.new w1 3 (intArr (List.replicate (N + 1) 0))
  go_loopw [27] (fun v wr => ∃ i : Nat, i ≤ N + 1 ∧ v = .int .i64 i ∧ Blk wr w1.heap.size 3 (intArr (fillI (N + 1) (List.replicate (N + 1) 1001) i)) ∧ Blk wr (w1.heap.size + 1) 40 #[.slice (some ⟨w1.heap.size, 0, none⟩) (N + 1) (N + 1)] ∧ Blk wr g2 152 T ∧ Below w.heap.size w wr) (fun v _ => N + 1 - (intOf v).toNat)
  case atStart => exact ⟨0, by omega, rfl, by rw [fillI_zero]; exact heap_alloc2_old _ _ _, heap_alloc2_new _ _ _, (hG2.alloc _).alloc _, (hb1.alloc hb1.size _).alloc (by have := hb1.size; simp; omega) _⟩
  case round =>
    have hsz1 := hb1.size
    clear hF0 hb1 hG2
    obtain ⟨i, hi, rfl, hF, h6, hG2, hb⟩ := hrel
    have hfl : (List.replicate (N + 1) (1001 : Int)).length = N + 1 := by simp
    by_cases hlt : i < N + 1
    · have hlti : (i : Int) < N + 1 := by omega
      have hc0 : wr.cell? ⟨w1.heap.size, i, none⟩ = some (.int .i64 0) := by rw [hF.cell, intArr_at, fillI_at hfl hlt]; rfl
      have hf0 := hF.frozen i
      have hc6 : wr.cell? ⟨w1.heap.size + 1, 0, none⟩ = some (.slice (some ⟨w1.heap.size, 0, none⟩) (N + 1) (N + 1)) := by rw [h6.cell]; rfl
      have hF1 : Blk (wr.setCell ⟨w1.heap.size, i, none⟩ (.int .i64 1001)) w1.heap.size 3 (intArr (fillI (N + 1) (List.replicate (N + 1) 1001) (i + 1))) := by
        have := hF.set_ i (.int .i64 1001)
        rwa [intArr_set, fillI_set hfl (by rw [List.getElem?_replicate, if_pos hlt])] at this
      have h61 := h6.far (p := ⟨w1.heap.size, i, none⟩) (by simp) (.int .i64 1001)
      have hG21 := hG2.far (p := ⟨w1.heap.size, i, none⟩) (hG2.ne_ hF (by decide)) (.int .i64 1001)
      have hb2 := hb.setCell (p := ⟨w1.heap.size, i, none⟩) hsz1 (.int .i64 1001)
      clear hfl
      go_wp2_with (fail)
      go_roundw
      case rel => exact ⟨i + 1, by omega, by go_num, hF1, h61, hG21, hb2⟩
      case measure => simp only [intOf]; omega
    · have hlti : ¬ (i : Int) < N + 1 := by omega
      obtain rfl : i = N + 1 := by omega
      rw [fillI_end hfl] at hF
      have hc0 : wr.cell? ⟨w1.heap.size, 0, none⟩ = some (.int .i64 1001) := by rw [hF.cell, intArr_at]; rfl
      have hf0 := hF.frozen 0
      have hc6 : wr.cell? ⟨w1.heap.size + 1, 0, none⟩ = some (.slice (some ⟨w1.heap.size, 0, none⟩) (N + 1) (N + 1)) := by rw [h6.cell]; rfl
      have hc2 : wr.cell? ⟨g2, 0, none⟩ = some (.slice A K c) := by rw [hG2.cell]; exact hT0
      have hFN : Blk (wr.setCell ⟨w1.heap.size, 0, none⟩ (.int .i64 0)) w1.heap.size 3 (intArr (fewL N (ps.drop K))) := by
        have := hF.set_ 0 (.int .i64 0)
        rw [intArr_set, List.replicate_succ, List.set_cons_zero] at this
        rwa [List.drop_of_length_le (by omega), fewL]
      have h6N := h6.far (p := ⟨w1.heap.size, 0, none⟩) (by simp) (.int .i64 0)
      have hne2 := hG2.ne_ hF (by decide)
      have hG2N := hG2.far (p := ⟨w1.heap.size, 0, none⟩) hne2 (.int .i64 0)
      have hbN := hb.setCell (p := ⟨w1.heap.size, 0, none⟩) hsz1 (.int .i64 0)
      have hc2N : (wr.setCell ⟨w1.heap.size, 0, none⟩ (.int .i64 0)).cell? ⟨g2, 0, none⟩ = some (.slice A K c) := by rw [hG2N.cell]; exact hT0
      have hge6 : w.heap.size ≤ w1.heap.size + 1 := by omega
      have hlt2 := hG2.lt
      clear hF h6 hG2 hb hfl hge hgr
      generalize w1.heap.size = F0 at *
      generalize F0 + 1 = g6 at *
      clear w1
      have hgeC := hbN.size
      have h6C := h6N.lt
      go_wp2_with (fail)
      have hCN := Blk.new (wr.setCell ⟨F0, 0, none⟩ (.int .i64 0)) 40 (madeCells #[.slice none 0 0] K)
      replace hFN := hFN.alloc (.cells (madeCells #[.slice none 0 0] K) 40)
      replace h6N := h6N.alloc (.cells (madeCells #[.slice none 0 0] K) 40)
      replace hG2N := hG2N.alloc (.cells (madeCells #[.slice none 0 0] K) 40)
      replace hbN := hbN.alloc hgeC (.cells (madeCells #[.slice none 0 0] K) 40)
      have hsz : (wr.setCell ⟨F0, 0, none⟩ (.int .i64 0)).heap.size = wr.heap.size := by simp
      rw [hsz] at hCN hgeC h6C
      clear hc2N hc6 hf0 hc0 hc2 hlt2 hmkS hN1 hsz hne2 hsz1
      generalize wr.heap.size = gC at *
      generalize (wr.setCell ⟨F0, 0, none⟩ (.int .i64 0)).alloc (.cells (madeCells #[.slice none 0 0] K) 40) = w0 at *
      have hL0 : L2 w w0 T g2 g6 gC ps N K F0 (madeCells #[.slice none 0 0] K) :=
        ⟨hG2N, h6N, hFN, hCN, ⟨by rw [made_size, hpl], fun k p hk hp => by
          have := (List.getElem?_eq_some_iff.1 hp).1
          omega⟩, hbN⟩
      clear hG2N h6N hFN hCN hbN
      have hne6 : g6 ≠ gC := by omega
      have hgeC' : w.heap.size ≤ gC := by omega
      refine loop2 A K c A2 c2 ss ms hSH.out N hN w B hB hr hr2 T hT0 hT1 ps hpsH.out hpl hK5 g2 g6 gC hge6 hgeC' hne6 _ _ _ _ _ _ _ _ _ _ _ _ _ _ _ _ _ _ _ _ _ _ _ _ _ _ _ _ _ _ _ _ _ _ _ _ _ _ _ _ _ _ _ _ _ _ _ _ _ _ _ _ _ _ _ _ _ _ _ _ _ _ _ _ _ _ _ _ _ _ _ _ _ _ _ _ _ _ _ _ _ _ _ _ _ _ _ _ _ _ _ _ _ _ _ _ _ _ _ _ _ _ _ _ _ _ _ _ _ _ _ _ _ _ _ _ _ _ _ _ _ _ _ _ _ _ _ _ _ _ _ _ _ _ _ _ _ _ _ _ _ _ _ _ _ _ _ _ _ _ _ _ _ _ _ _ _ _ _ _ _ _ _ _ _ _ _ _ _ _ _ _ _ _ _ w0 F0 _ rfl hL0 ?_
      intro v9 F CS t10 t11 t12 t13 t14 t15 t16 t17 t18 t44 t45 t46 t47 t48 t49 t50 t51 t52 t53 t54 t55 t56 t57 t58 t59 t60 t61 t62 t63 t64 t65 t66 t67 t68 t69 t70 t71 t72 t73 t74 t75 t76 t77 t78 t79 t80 t81 t82 t83 t84 t85 t86 t87 t88 t89 t90 t91 t92 t93 t94 t95 t96 t97 t98 t99 t100 t101 t102 t103 t104 t105 t106 t107 t108 t109 t110 t111 t112 t113 t114 t115 t116 t117 t118 t119 t120 t121 t122 t123 t124 t125 t126 t127 t128 t129 t130 t131 t132 t133 t134 t135 t136 t137 t138 t139 t140 t141 t142 t143 t144 w2 hL2
      have hc62 : w2.cell? ⟨g6, 0, none⟩ = some (.slice (some ⟨F, 0, none⟩) (N + 1) (N + 1)) := hL2.six.cell 0
      obtain ⟨z, hz⟩ : ∃ z, (fewL N ps).getD N 0 = z := ⟨_, rfl⟩
      have hcF2 : w2.cell? ⟨F, N, none⟩ = some (.int .i64 z) := by
        have hlen := few_len N ps
        rw [hL2.row.cell, List.drop_zero, intArr_at, ← hz, List.getD_eq_getElem?_getD, List.getElem?_eq_getElem (by omega)]
        rfl
      have hN0 : (0 : Int) ≤ N := by omega
      have hNN : (N : Int) < N + 1 := by omega
      clear hL0
      by_cases h12 : z = 1001
      · subst h12
        have hE := Lib.hid (show EE = 12 by rw [← hEE.out]; unfold fillE; rw [if_pos hz])
        have hV := Lib.hid (show VV = [] by rw [← hVV.out]; unfold fillV; rw [if_pos hz])
        go_wp2_with (fail)
        go_ret2
        rw [hE.out, hV.out]
        exact ⟨⟨_, rfl, OwnI.nil _ _⟩, hL2.be⟩
      · have hE := Lib.hid (show EE = 0 by rw [← hEE.out]; unfold fillE; rw [if_neg (by rw [hz]; exact h12)])
        have hV := Lib.hid (show VV = takeL N ps N by rw [← hVV.out]; unfold fillV; rw [if_neg (by rw [hz]; exact h12)])
        have hzb : (z == 1001) = false := by simpa using h12
        go_wp2_with (fail)
        refine loop6 A K c ss ms hSH.out N hN B w2 (Nat.le_trans hB hL2.be.size) (hr.later hB hL2.be) T hT0 ps hpsH.out hpl hK5 g2 gC CS hL2.st hL2.ch hL2.cho _ _ _ _ _ _ _ _ _ _ _ _ _ _ _ _ _ _ _ _ _ _ _ _ _ _ _ _ _ _ _ _ _ _ _ _ _ _ _ _ _ _ _ _ _ _ _ _ _ _ _ _ _ _ _ _ _ _ _ _ _ _ _ _ _ _ _ _ _ _ _ _ _ _ _ _ _ _ _ _ _ _ _ _ _ _ _ _ _ _ _ _ _ _ _ _ _ _ _ _ _ _ _ _ _ _ _ _ _ _ _ _ _ _ _ _ _ _ _ _ _ _ _ _ _ _ _ _ _ _ _ _ _ _ _ _ _ _ _ _ _ _ _ _ _ _ _ _ _ _ _ _ _ _ _ _ _ _ _ _ _ _ _ _ _ _ _ _ _ _ _ _ _ _ _ _ rfl rfl rfl ?_
        intro z1 v19 z152 t20 t21 t153 t154 t155 t156 t157 t158 t159 t160 t161 t162 t163 t164 t165 t166 t167 t168 t169 t170 t171 t172 t173 t174 t175 t176 w7 ho7 hb7
        go_wp2_with (fail)
        go_ret2
        rw [hE.out, hV.out]
        exact ⟨⟨_, rfl, own_mono ho7 hL2.be.size⟩, hL2.be.trans (hb7.mono hL2.be.size)⟩
end Pk
end Go.Proofs.YtbgakdpbglpfaaaGreatDoor
