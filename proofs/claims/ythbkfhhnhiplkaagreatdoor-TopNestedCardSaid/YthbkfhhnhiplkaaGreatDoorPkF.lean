/- packet's fill: the loop over the numbers of one remainder. -/
import Derived.Test.YthbkfhhnhiplkaaGreatDoorPkE
import Derived.Deep.RegionHeld3
namespace Go.Proofs.YthbkfhhnhiplkaaGreatDoor
open Go.RowKit
namespace Pk
open Bu (natI natI_at)
theorem asc_len : ∀ (j : Nat) (W : List Nat), W.Pairwise (fun a b => a < b) → (∀ x ∈ W, x < j) → W.length ≤ j := by
  intro j
  induction j with
  | zero =>
    intro W _ h
    cases W with
    | nil => exact Nat.le_refl _
    | cons a W => exact absurd (h a (by simp)) (Nat.not_lt_zero _)
  | succ j ih =>
    intro W hp h
    rcases nil_or_end W with rfl | ⟨V, a, rfl⟩
    · exact Nat.zero_le _
    · rw [List.pairwise_append] at hp
      have h1 := ih V hp.1 fun x hx => by
        have := hp.2.2 x hx a (by simp)
        have := h a (by simp)
        omega
      rw [List.length_append, List.length_singleton]
      omega
theorem win_len {c : Nat → Int} {lo j : Nat} {W : List Nat} (h : Win c lo j W) : W.length ≤ j + 1 :=
  asc_len (j + 1) W (h.asc.imp fun h => h.1) fun x hx => by have := (h.rng x hx).2; omega
def jOf (w : World) : Value → Nat
  | .pointer (some a) => match w.cell? a with
    | some v => (intOf v).toNat
    | none => 0
  | _ => 0
/-- what stands in the loop over the numbers of one remainder -/
structure L4 (w0 : World) (g6 g14 g10 F X Y N : Nat) (few : List Int) (r s : Nat) : Prop where
  c6 : w0.cell? ⟨g6, 0, none⟩ = some (.slice (some ⟨F, 0, none⟩) (N + 1) (N + 1))
  c14 : w0.cell? ⟨g14, 0, none⟩ = some (.int .i64 (r : Int))
  c10 : w0.cell? ⟨g10, 0, none⟩ = some (.int .i64 (s : Int))
  cf : ∀ x, x ≤ N → w0.cell? ⟨F, x, none⟩ = some (.int .i64 (few.getD x 0))
  n6 : g6 ≠ X ∧ g6 ≠ Y
  n14 : g14 ≠ X ∧ g14 ≠ Y
  n10 : g10 ≠ X ∧ g10 ≠ Y
  nf : F ≠ X ∧ F ≠ Y
  xy : X ≠ Y
  xl : X < w0.heap.size
  yl : Y < w0.heap.size
theorem Fr.cell {S : Nat → Prop} {w w' : World} (h : Fr S w w') {p : Addr} {v : Value} (hp : w.cell? p = some v) (hS : ¬ S p.block) : w'.cell? p = some v :=
  (World.cell?_of_block (h.block p.block (cell_lt hp) hS)).trans hp
theorem L4.coc {w0 w : World} {g6 g14 g10 g16 F X Y N : Nat} {few : List Int} {r s j : Nat} (h : L4 w0 g6 g14 g10 F X Y N few r s) (hF : Fr (fun i => i = X ∨ i = Y) w0 w) (hj : w.cell? ⟨g16, 0, none⟩ = some (.int .i64 (j : Int))) : CoC w g6 g14 g10 g16 F N few r s j :=
  ⟨Fr.cell hF h.c6 (by have := h.n6; show ¬ (g6 = X ∨ g6 = Y); omega), Fr.cell hF h.c14 (by have := h.n14; show ¬ (g14 = X ∨ g14 = Y); omega), Fr.cell hF h.c10 (by have := h.n10; show ¬ (g10 = X ∨ g10 = Y); omega), hj,
   fun x hx => Fr.cell hF (h.cf x hx) (by have := h.nf; show ¬ (F = X ∨ F = Y); omega)⟩
theorem Fr.belowR {S : Nat → Prop} {a w w' : World} (h : Fr S a w) (hb : Below w.heap.size w w') : Fr S a w' :=
  ⟨hb.os.trans h.os, hb.tape.trans h.tape, hb.output.trans h.output, Nat.le_trans h.size hb.size, fun i hi hn => (hb.block i (Nat.lt_of_lt_of_le hi h.size)).trans (h.block i hi hn)⟩
/-- what a cell holds, whatever it is -/
def valAt (w : World) (g o : Nat) : Value := (w.cell? ⟨g, o, none⟩).getD undef
theorem valAt_some {w : World} {g o : Nat} {v : Value} (h : w.cell? ⟨g, o, none⟩ = some v) : w.cell? ⟨g, o, none⟩ = some (valAt w g o) := by
  unfold valAt
  rw [h]; rfl
@[reducible] def S28 (g16 j g7 off b X Y x : Nat) (w' : World) : Prop := w'.cell? ⟨g16, 0, none⟩ = some (.int .i64 (j : Int)) ∧ w'.cell? ⟨g7, off, none⟩ = some (.int .i64 (b : Int)) ∧ w'.cell? ⟨X, x, none⟩ = some (valAt w' X x) ∧ w'.frozen? ⟨X, x, none⟩ = false ∧ w'.cell? ⟨Y, x, none⟩ = some (valAt w' Y x) ∧ w'.frozen? ⟨Y, x, none⟩ = false
theorem S28.make {w : World} {g16 j g7 off b X Y x : Nat} {XL YL : List Int} (hj : Blk w g16 3 #[.int .i64 (j : Int)]) (hb : w.cell? ⟨g7, off, none⟩ = some (.int .i64 (b : Int))) (hX : Blk w X 3 (intArr XL)) (hY : Blk w Y 3 (intArr YL))
    (hx : x < XL.length) (hy : x < YL.length) : S28 g16 j g7 off b X Y x w.drew := by
  have k : ∀ {Z : Nat} {ZL : List Int}, Blk w Z 3 (intArr ZL) → x < ZL.length → ∃ v, w.cell? ⟨Z, x, none⟩ = some v := fun h hl => ⟨.int .i64 (_ : Int), by rw [h.cell, intArr_at, List.getElem?_eq_getElem hl]; rfl⟩
  obtain ⟨v, hv⟩ := k hX hx
  obtain ⟨u, hu⟩ := k hY hy
  exact ⟨hj.cell 0, hb, valAt_some (w := w.drew) hv, hX.frozen x, valAt_some (w := w.drew) hu, hY.frozen x⟩
theorem S28.drewN {w : World} {g16 j g7 off b X Y x : Nat} (h : S28 g16 j g7 off b X Y x w) (q : Nat) : S28 g16 j g7 off b X Y x (w.drewN q) := h
theorem S28.set {w : World} {g16 j g7 off b X Y x Z : Nat} (h : S28 g16 j g7 off b X Y x w) (h1 : Z ≠ g16) (h2 : Z ≠ g7) (v : Value) : S28 g16 j g7 off b X Y x (w.setCell ⟨Z, x, none⟩ v) := by
  obtain ⟨k1, k2, k3, k4, k5, k6⟩ := h
  have c : ∀ U : Nat, w.cell? ⟨U, x, none⟩ = some (valAt w U x) → ∃ u, (w.setCell ⟨Z, x, none⟩ v).cell? ⟨U, x, none⟩ = some u := fun U hU => by
    by_cases e : (⟨Z, x, none⟩ : Addr) = ⟨U, x, none⟩
    · rw [e]
      exact ⟨_, World.cell?_setCell_same _ _ _ hU⟩
    · rw [World.cell?_setCell_other _ _ _ _ e]
      exact ⟨_, hU⟩
  obtain ⟨u, hu⟩ := c X k3
  obtain ⟨u', hu'⟩ := c Y k5
  refine ⟨?_, ?_, valAt_some hu, by rw [World.frozen?_setCell]; exact k4, valAt_some hu', by rw [World.frozen?_setCell]; exact k6⟩
  · rw [World.cell?_setCell_other _ _ _ _ (by simp)]; exact k1
  · rw [World.cell?_setCell_other _ _ _ _ (by simp)]; exact k2
theorem Fr.setC {S : Nat → Prop} {a w : World} (h : Fr S a w) {p : Addr} (hp : S p.block) (v : Value) : Fr S a (w.setCell p v) :=
  ⟨h.os, h.tape, h.output, by simpa using h.size, fun i hi hn => (Below.heap_setCell w p v i fun e => hn (by rw [e]; exact hp)).trans (h.block i hi hn)⟩
theorem RowI.set2 {w : World} {base g : Nat} {v : Value} {l : List Int} (h : RowI w base v (some g) l) {X Y : Nat} (hX : X ≠ g) (hY : Y ≠ g) (i k : Nat) (u u' : Value) : RowI ((w.setCell ⟨X, i, none⟩ u).setCell ⟨Y, k, none⟩ u') base v (some g) l :=
  h.same fun g' hg' => by
    injection hg' with e
    subst e
    rw [Below.heap_setCell _ _ _ _ (Ne.symm hY), Below.heap_setCell _ _ _ _ (Ne.symm hX)]
set_option maxRecDepth 100000 in
set_option maxHeartbeats 1000000 in
theorem loop4 (N g6 g14 g10 F X Y r s mo : Nat) (few XL0 YL0 : List Int) (g16 : Nat) (hN : N ≤ 1000) (hs : 1 ≤ s ∧ s ≤ 30) (hmo : mo ≤ 40) (hrs : r < s) (hf : ∀ x, 0 ≤ few.getD x 0 ∧ few.getD x 0 ≤ 1001)
    (v15 v16 : Value) (s0 s2 s3 s4 s5 s7 s8 s9 s17 s18 s19 s20 s21 s22 s23 s24 s25 s26 s27 s28 s29 s30 s31 s32 s33 s34 s35 s36 s37 s38 s39 s40 s41 s42 s43 s44 s45 s46 s47 s48 s49 s50 s51 s52 s53 s54 s55 s56 s57 s58 s59 s60 s61 s62 s63 s64 s65 s66 s67 s68 s69 s70 s71 s72 s73 s74 s75 s76 s77 s78 s79 s80 s81 s82 s83 s84 s85 s86 s87 s88 s89 s90 s91 s92 s93 s94 s95 s96 s97 s98 s99 s100 s101 s102 s103 s104 s105 s106 s107 s108 s109 s110 s111 s112 s113 s114 s115 s116 s117 s118 s119 s120 s121 s122 s123 s124 s125 s126 s127 s128 s129 s130 s131 s132 s133 s134 s135 s136 s137 s138 s139 s140 s141 s142 s143 s144 s145 s146 s147 s148 s149 s150 s151 s152 s153 s154 s155 s156 s157 s158 s159 s160 s161 s162 s163 s164 s165 s166 s167 s168 s169 s170 s171 s172 s173 s174 s175 s176 s177 : Value) (Q0 : Exit → Act → World → Prop) (w0 w : World) (hL : L4 w0 g6 g14 g10 F X Y N few r s)
    (h15 : v15 = .slice none 0 0) (h16 : v16 = .pointer (some ⟨g16, 0, none⟩)) (hj : Blk w g16 3 #[.int .i64 0]) (hg : w0.heap.size ≤ g16) (hD : Dn few s mo N r 0 XL0 YL0) (hX : Blk w X 3 (intArr XL0)) (hY : Blk w Y 3 (intArr YL0)) (hF : Fr (fun i => i = X ∨ i = Y) w0 w)
    (hexit : ∀ (v q : Value) (XL YL : List Int) (u17 u18 u71 u72 u73 u74 u75 u76 u77 u78 u79 u80 u81 u82 u83 u84 u85 u86 u87 u88 u89 u90 u91 u92 u93 u94 u95 u96 u97 u98 u99 u100 u101 u102 u103 u104 u105 u106 u107 u108 u109 u110 u111 u112 u113 u114 u115 u116 u117 u118 u119 u120 u121 u122 u123 u124 u125 u126 u127 u128 u129 u130 u131 u132 u133 u134 u135 u136 u137 u138 : Value) (w' : World), Dn few s mo N (r + 1) 0 XL YL → Blk w' X 3 (intArr XL) → Blk w' Y 3 (intArr YL) → Fr (fun i => i = X ∨ i = Y) w0 w' → Q0 (.exit 6) ⟨(s0 :: (.int .i64 (N : Int)) :: s2 :: s3 :: s4 :: s5 :: (.pointer (some ⟨g6, 0, none⟩)) :: s7 :: s8 :: s9 :: (.pointer (some ⟨g10, 0, none⟩)) :: (.int .i64 (mo : Int)) :: (.slice (some ⟨X, 0, none⟩) (N + 1) (N + 1)) :: (.slice (some ⟨Y, 0, none⟩) (N + 1) (N + 1)) :: (.pointer (some ⟨g14, 0, none⟩)) :: v :: q :: u17 :: u18 :: s19 :: s20 :: s21 :: s22 :: s23 :: s24 :: s25 :: s26 :: s27 :: s28 :: s29 :: s30 :: s31 :: s32 :: s33 :: s34 :: s35 :: s36 :: s37 :: s38 :: s39 :: s40 :: s41 :: s42 :: s43 :: s44 :: s45 :: s46 :: s47 :: s48 :: s49 :: s50 :: s51 :: s52 :: s53 :: s54 :: s55 :: s56 :: s57 :: s58 :: s59 :: s60 :: s61 :: s62 :: s63 :: s64 :: s65 :: s66 :: s67 :: s68 :: s69 :: s70 :: u71 :: u72 :: u73 :: u74 :: u75 :: u76 :: u77 :: u78 :: u79 :: u80 :: u81 :: u82 :: u83 :: u84 :: u85 :: u86 :: u87 :: u88 :: u89 :: u90 :: u91 :: u92 :: u93 :: u94 :: u95 :: u96 :: u97 :: u98 :: u99 :: u100 :: u101 :: u102 :: u103 :: u104 :: u105 :: u106 :: u107 :: u108 :: u109 :: u110 :: u111 :: u112 :: u113 :: u114 :: u115 :: u116 :: u117 :: u118 :: u119 :: u120 :: u121 :: u122 :: u123 :: u124 :: u125 :: u126 :: u127 :: u128 :: u129 :: u130 :: u131 :: u132 :: u133 :: u134 :: u135 :: u136 :: u137 :: u138 :: s139 :: s140 :: s141 :: s142 :: s143 :: s144 :: s145 :: s146 :: s147 :: s148 :: s149 :: s150 :: s151 :: s152 :: s153 :: s154 :: s155 :: s156 :: s157 :: s158 :: s159 :: s160 :: s161 :: s162 :: s163 :: s164 :: s165 :: s166 :: s167 :: s168 :: s169 :: s170 :: s171 :: s172 :: s173 :: s174 :: s175 :: s176 :: s177 :: []).toArray, []⟩ w') :
    Code.wp Tryz.prog (Code.loop (lp 3)) Q0 ⟨(s0 :: (.int .i64 (N : Int)) :: s2 :: s3 :: s4 :: s5 :: (.pointer (some ⟨g6, 0, none⟩)) :: s7 :: s8 :: s9 :: (.pointer (some ⟨g10, 0, none⟩)) :: (.int .i64 (mo : Int)) :: (.slice (some ⟨X, 0, none⟩) (N + 1) (N + 1)) :: (.slice (some ⟨Y, 0, none⟩) (N + 1) (N + 1)) :: (.pointer (some ⟨g14, 0, none⟩)) :: v15 :: v16 :: s17 :: s18 :: s19 :: s20 :: s21 :: s22 :: s23 :: s24 :: s25 :: s26 :: s27 :: s28 :: s29 :: s30 :: s31 :: s32 :: s33 :: s34 :: s35 :: s36 :: s37 :: s38 :: s39 :: s40 :: s41 :: s42 :: s43 :: s44 :: s45 :: s46 :: s47 :: s48 :: s49 :: s50 :: s51 :: s52 :: s53 :: s54 :: s55 :: s56 :: s57 :: s58 :: s59 :: s60 :: s61 :: s62 :: s63 :: s64 :: s65 :: s66 :: s67 :: s68 :: s69 :: s70 :: s71 :: s72 :: s73 :: s74 :: s75 :: s76 :: s77 :: s78 :: s79 :: s80 :: s81 :: s82 :: s83 :: s84 :: s85 :: s86 :: s87 :: s88 :: s89 :: s90 :: s91 :: s92 :: s93 :: s94 :: s95 :: s96 :: s97 :: s98 :: s99 :: s100 :: s101 :: s102 :: s103 :: s104 :: s105 :: s106 :: s107 :: s108 :: s109 :: s110 :: s111 :: s112 :: s113 :: s114 :: s115 :: s116 :: s117 :: s118 :: s119 :: s120 :: s121 :: s122 :: s123 :: s124 :: s125 :: s126 :: s127 :: s128 :: s129 :: s130 :: s131 :: s132 :: s133 :: s134 :: s135 :: s136 :: s137 :: s138 :: s139 :: s140 :: s141 :: s142 :: s143 :: s144 :: s145 :: s146 :: s147 :: s148 :: s149 :: s150 :: s151 :: s152 :: s153 :: s154 :: s155 :: s156 :: s157 :: s158 :: s159 :: s160 :: s161 :: s162 :: s163 :: s164 :: s165 :: s166 :: s167 :: s168 :: s169 :: s170 :: s171 :: s172 :: s173 :: s174 :: s175 :: s176 :: s177 :: []).toArray, []⟩ w := by
  conv => arg 2; arg 1; whnf
  have hDH := Lib.hid hD
  have hfH := Lib.hid hf
  clear hD hf
  go_loopw [15, 16] (fun v q wr => ∃ (j g16 : Nat) (og : Option Nat) (W : List Nat) (XL YL : List Int), q = .pointer (some ⟨g16, 0, none⟩) ∧ Blk wr g16 3 #[.int .i64 (j : Int)] ∧ w0.heap.size ≤ g16 ∧ RowI wr w0.heap.size v og (natI W) ∧ og ≠ some g16 ∧ Hid (Wn few s mo r j W) ∧ Hid (Dn few s mo N r j XL YL) ∧ j ≤ N + 1 ∧ Blk wr X 3 (intArr XL) ∧ Blk wr Y 3 (intArr YL) ∧ Fr (fun i => i = X ∨ i = Y) w0 wr) (fun _ q wr => N + 2 - jOf wr q)
  case atStart => exact ⟨0, g16, none, [], XL0, YL0, h16, hj, hg, by rw [h15]; exact RowI.nil _ _, by simp, Lib.hid rfl, hDH, by omega, hX, hY, hF⟩
  case round =>
    clear hDH hX hY hF hj hg h15 h16
    obtain ⟨j, g16, og, W, XL, YL, rfl, hj, hg16, hW, hog, hWn, hDH, hjN, hX, hY, hF⟩ := hrel
    obtain ⟨wb, rfl⟩ : ∃ x, x = wr := ⟨wr, rfl⟩
    have hcj : wb.cell? ⟨g16, 0, none⟩ = some (.int .i64 (j : Int)) := hj.cell 0
    have hjO := Lib.hid (show jOf wb (.pointer (some ⟨g16, 0, none⟩)) = j by
      unfold jOf
      simp only [hcj]
      show ((j : Int)).toNat = j
      omega)
    have hC := hL.coc hF hcj
    have hc14 := hC.c14
    have hc10 := hC.c10
    obtain ⟨p, hp⟩ : ∃ p, j * s = p := ⟨_, rfl⟩
    obtain ⟨x, hx⟩ : ∃ x, r + p = x := ⟨_, rfl⟩
    have hpi : (j : Int) * (s : Int) = p := by rw [← hp]; simp
    have hxi : (r : Int) + p = x := by omega
    have hpB : p ≤ 40000 := by
      have h1 := Nat.mul_le_mul hjN hs.2
      omega
    by_cases hle : x ≤ N
    · have hlei : (x : Int) ≤ N := by omega
      have hxj := Lib.hid (show r + j * s = x by rw [hp]; exact hx)
      clear hp hx
      go_wp2_with (fail)
      refine loop5 N g6 g14 g10 g16 F r s mo j x w0.heap.size few og W hN hs hxj.out hle hfH.out _ _ _ _ _ _ _ _ _ _ _ _ _ _ _ _ _ _ _ _ _ _ _ _ _ _ _ _ _ _ _ _ _ _ _ _ _ _ _ _ _ _ _ _ _ _ _ _ _ _ _ _ _ _ _ _ _ _ _ _ _ _ _ _ _ _ _ _ _ _ _ _ _ _ _ _ _ _ _ _ _ _ _ _ _ _ _ _ _ _ _ _ _ _ _ _ _ _ _ _ _ _ _ _ _ _ _ _ _ _ _ _ _ _ _ _ _ _ _ _ _ _ _ _ _ _ _ _ _ _ _ _ _ _ _ _ _ _ _ _ _ _ _ _ _ _ _ _ _ _ _ _ _ _ _ _ _ _ _ _ _ _ _ _ _ _ _ _ _ _ _ _ _ _ hC hW hWn.out.begin ?_
      intro v5 W5 t81 t82 t83 t84 t85 t86 t87 t88 t89 t90 t91 t92 t93 t94 t95 t96 t97 t98 t99 t100 t101 t102 w5 hW5 hwin hb5
      have hX5 := hX.callee hb5
      have hY5 := hY.callee hb5
      have hj5 := hj.callee hb5
      have hC5 := hC.below hb5
      have hc165 := hC5.c16
      have hlen5 : (natI W5).length ≤ 1000000 := by
        have h1 := win_len hwin
        rw [List.length_append, List.length_singleton] at h1
        simp only [natI, List.length_map]
        omega
      have hsz5 : w0.heap.size ≤ w5.heap.size := Nat.le_trans hF.size hb5.size
      clear hW hX hY hj hcj hC hc14 hc10
      go_wp2_with (first
        | (at_builtin
           refine wpList_pushR rfl _ _ rfl rfl (hW5.none_ (World.grownBy_alloc w5 (.cells #[.int .i64 (j : Int)] 3) none)) (by show _ ≤ (w5.heap.push _).size; simp; omega) w5.heap.size 1 (j : Int) rfl ((Blk.new w5 _ _).cell 0) hlen5 ?_
           intro v6 g7 w6 hW6 hat6 hfr6))
      have hst : ∀ i, i < w5.heap.size → og ≠ some i → w6.heap[i]? = w5.heap[i]? := fun i hi hne => by
        have hi2 : i < (w5.alloc (.cells #[.int .i64 (j : Int)] 3)).heap.size := by show _ < (w5.heap.push _).size; simp; omega
        rw [hfr6.block i hi2 hne, Below.heap_alloc w5 _ i hi]
      have hog6 : og ≠ some g16 := hog
      have hogX : ∀ i, i < w0.heap.size → og ≠ some i := fun i hi e => by
        have := hW5.ge e
        omega
      have hX6 : Blk w6 X 3 (intArr XL) := (hst X hX5.lt (hogX X hL.xl)).trans hX5
      have hY6 : Blk w6 Y 3 (intArr YL) := (hst Y hY5.lt (hogX Y hL.yl)).trans hY5
      have hj6 : Blk w6 g16 3 #[.int .i64 (j : Int)] := (hst g16 hj5.lt hog6).trans hj5
      have hF6 : Fr (fun i => i = X ∨ i = Y) w0 w6 :=
        ⟨hfr6.os.trans (hb5.os.trans hF.os), hfr6.tape.trans (hb5.tape.trans hF.tape), hfr6.output.trans (hb5.output.trans hF.output),
          Nat.le_trans hsz5 (Nat.le_trans (by show _ ≤ (w5.heap.push _).size; simp) hfr6.size), fun i hi hn => by
            rw [hst i (by omega) (hogX i hi), hb5.block i (Nat.lt_of_lt_of_le hi hF.size), hF.block i hi hn]⟩
      have hg7 : some g7 ≠ some g16 := by
        rintro e
        injection e with e
        subst e
        rcases hat6 with h | h
        · exact hog6 h
        · have := hj5.lt
          have h2 : (w5.alloc (.cells #[.int .i64 (j : Int)] 3)).heap.size = w5.heap.size + 1 := by show (w5.heap.push _).size = _; simp
          omega
      have e7 : natI W5 ++ [(j : Int)] = natI (W5 ++ [j]) := by simp [natI]
      rw [e7] at hW6
      clear hst hat6 hfr6 hlen5 hX5 hY5 hj5 hb5 hC5 hc165 hW5 hF hsz5 hogX hog hog6
      generalize W5 ++ [j] = W6 at *
      obtain ⟨a, W7, rfl⟩ := hwin.ne (by omega)
      have hcj6 := hj6.cell 0
      have hcL := hL.coc hF6 hcj6
      have hra := hwin.rng a (by simp)
      have hjN2 : j ≤ N := by
        have h1 := Nat.mul_le_mul_left j hs.1
        have h2 := hxj.out
        omega
      have hjN : j ≤ 1000 := by
        have h1 := Nat.mul_le_mul_left j hs.1
        have h2 := hxj.out
        omega
      have e8 : natI (a :: W7) = (a : Int) :: natI W7 := by simp [natI]
      rw [e8] at hW6
      obtain ⟨g7', off, cap, e1, rfl, hcap, hca, _, _⟩ := hW6.cut
      injection e1 with e1
      subst e1
      obtain ⟨lW, hlW⟩ : ∃ n, (natI W7).length = n := ⟨_, rfl⟩
      rw [hlW] at hcap hW6 ⊢
      obtain ⟨n1, hn1⟩ : ∃ n, lW + 1 = n := ⟨_, rfl⟩
      rw [hn1] at hcap hW6 ⊢
      have hi0 : (0 : Int) < (n1 : Int) := by omega
      have hadd0 : (⟨g7, off, none⟩ : Addr).add 0 = ⟨g7, off, none⟩ := by unfold Addr.add; split <;> simp_all
      obtain ⟨d, hd⟩ : ∃ d : Int, (j : Int) - mo = d := ⟨_, rfl⟩
      have hdw : Value.int .i64 (IntKind.i64.wrap d) = Value.int .i64 d := by congr 1; rw [IntKind.wrap_i64]; omega
      have hWH := Lib.hid hwin
      clear hwin
      go_wp2_with (fail)
      go_quiet (fail)
      have hbq : Below w6.heap.size w6 (w6.drewN nq) := below_drewN (Below.refl _ _) nq
      have hX8 := hX6.callee hbq
      have hY8 := hY6.callee hbq
      have hj8 := hj6.callee hbq
      have hF8 := Fr.belowR hF6 hbq
      have hW8 := RowI.callee hW6 hbq
      clear hX6 hY6 hj6 hF6 hW6 hcj6 hcL hca hbq
      generalize w6.drewN nq = w8 at *
      go_upto_if 113 with (fail)
      go_cut [15] from 114 to 115 (fun v wx => ∃ (a2 : Nat) (W8 : List Nat), RowI w8 w0.heap.size v (some g7) (natI (a2 :: W8)) ∧ Hid (Win (fun i => few.getD (r + i * s) 0 - i) (j - mo) j (a2 :: W8)) ∧ wx = w8)
      case first =>
        by_cases hlt : (a : Int) < d
        · have hsl := win_slide hWH.out (by omega)
          obtain ⟨a2, W8, rfl⟩ := hsl.ne (Nat.sub_le _ _)
          have hlen7 : (natI (a2 :: W8)).length = W8.length + 1 := by simp [natI]
          have hcap1 : ¬ cap = 1 := by omega
          have hnl : (natI (a2 :: W8)).length = n1 - 1 := by omega
          have htl := (RowI.tail hW8).2
          rw [if_neg hcap1, hnl] at htl
          clear hlen7 hnl
          have hslH := Lib.hid hsl
          clear hsl
          go_wp2_with (fail)
          go_meet
          exact ⟨a2, W8, htl, hslH, rfl⟩
        · go_wp2_with (fail)
          go_meet
          exact ⟨a, W7, by rw [e8]; exact hW8, Lib.hid (win_keep hWH.out (by omega)), rfl⟩
      case rest =>
        clear hW8 hWH
        obtain ⟨b, W9, hW8, hWH, rfl⟩ := hcut
        have hcj8 : wc.cell? ⟨g16, 0, none⟩ = some (.int .i64 (j : Int)) := hj8.cell 0
        have hC8 := hL.coc hF8 hcj8
        have hc14 := hC8.c14
        have hc10 := hC8.c10
        go_wp2_with (fail)
        have hrb := hWH.out.rng b (by simp)
        obtain ⟨xb, hxb⟩ : ∃ n, r + b * s = n := ⟨_, rfl⟩
        have hxbN : xb ≤ N := by
          have h1 := Nat.mul_le_mul_right s hrb.2
          have h2 := hxj.out
          omega
        obtain ⟨z, hz⟩ : ∃ z, few.getD xb 0 = z := ⟨_, rfl⟩
        have hzr := hfH.out xb
        rw [hz] at hzr
        obtain ⟨m, hm⟩ : ∃ m, manyT few s mo x = m := ⟨_, rfl⟩
        obtain ⟨fx, hfx⟩ : ∃ f, fewT few s mo x = f := ⟨_, rfl⟩
        have hmany := win_many hrs hWH.out
        rw [hxj.out, hm, hxb, hz] at hmany
        have hmv : (j : Int) - b = m := by omega
        have hmn : min (1001 : Int) (z + j - b) = fx := by
          rw [← hfx, fewT, hm, ← hmany.1, hmany.2]
        have hD9 := Lib.hid (hDH.out.step hxj.out hle)
        rw [hm, hfx] at hD9
        have e9 : natI (b :: W9) = (b : Int) :: natI W9 := by simp [natI]
        rw [e9] at hW8
        obtain ⟨g7', off8, cap8, e1, rfl, hcap8, hcb, _, _⟩ := hW8.cut
        injection e1 with e1
        subst e1
        obtain ⟨n8, hn8⟩ : ∃ n, (natI W9).length + 1 = n := ⟨_, rfl⟩
        rw [hn8] at hcap8 hW8 ⊢
        have hi8 : (0 : Int) < (n8 : Int) := by omega
        have hi80 : 0 < n8 := by omega
        have hi00 : (0 : Int) ≤ 0 := Int.le_refl 0
        have hadd8 : (⟨g7, off8, none⟩ : Addr).add 0 = ⟨g7, off8, none⟩ := by unfold Addr.add; split <;> simp_all
        have hx0 : (0 : Int) ≤ x := by omega
        have hx1 : (x : Int) < N + 1 := by omega
        have hXl : XL.length = N + 1 := hDH.out.1
        have hYl : YL.length = N + 1 := hDH.out.2.1
        have hS := S28.make hj8 hcb hX8 hY8 (show x < XL.length by omega) (show x < YL.length by omega)
        have hg16X : X ≠ g16 := fun e => by have := hL.xl; omega
        have hg16Y : Y ≠ g16 := fun e => by have := hL.yl; omega
        have hg7b := hW8.ge rfl
        have hg7X : X ≠ g7 := fun e => by have := hL.xl; omega
        have hg7Y : Y ≠ g7 := fun e => by have := hL.yl; omega
        have cC := Lib.hid (cost_any g6 g14 g10 g16 F N few r s j b xb hN hxb hxbN (by omega) hjN z hz hzr.1 hzr.2 wc.drew (CoC.drewN hC8 1))
        clear hmany
        go_region_held3 (fun w' => w'.cell? ⟨g16, 0, none⟩ = some (.int .i64 (j : Int)) ∧ w'.cell? ⟨g7, off8, none⟩ = some (.int .i64 (b : Int)) ∧ w'.cell? ⟨X, x, none⟩ = some (valAt w' X x) ∧ w'.frozen? ⟨X, x, none⟩ = false ∧ w'.cell? ⟨Y, x, none⟩ = some (valAt w' Y x) ∧ w'.frozen? ⟨Y, x, none⟩ = false)
          (first | assumption | exact hS | exact S28.set (by assumption) hg16X hg7X _ | exact S28.set (by assumption) hg16Y hg7Y _)
          (first
            | (go_at_call 136; (with_reducible refine cC.out.mono ?_); rintro e w5 ⟨rfl, q5, rfl⟩
               have hS5 := S28.drewN hS q5))
        go_wp2_with (fail)
        rename_i hHeld
        obtain ⟨wA, hwA⟩ : ∃ u, wc.drewN (1 + q5) = u := ⟨_, rfl⟩
        have hbA : Below wc.heap.size wc wA := by rw [← hwA]; exact below_drewN (Below.refl _ _) _
        have hXA := hX8.callee hbA
        have hYA := hY8.callee hbA
        have hFA := Fr.belowR hF8 hbA
        have hWA := RowI.callee hW8 hbA
        have hsA : wA.heap.size = wc.heap.size := by rw [← hwA]; rfl
        have hg7l := hW8.lt rfl
        rw [hwA]
        clear hHeld hwA hX8 hY8 hF8 hW8 hS hS5 hbA
        have hXB := hXA.set_ x (.int .i64 fx)
        rw [intArr_set] at hXB
        have hYB := hYA.far (p := ⟨X, x, none⟩) (Ne.symm hL.xy) (.int .i64 fx)
        have hYC := hYB.set_ x (.int .i64 (m : Int))
        rw [intArr_set] at hYC
        have hXC := hXB.far (p := ⟨Y, x, none⟩) hL.xy (.int .i64 (m : Int))
        have hWC := RowI.set2 hWA hg7X hg7Y x x (.int .i64 fx) (.int .i64 (m : Int))
        have hFC := Fr.setC (Fr.setC hFA (p := ⟨X, x, none⟩) (Or.inl rfl) (.int .i64 fx)) (p := ⟨Y, x, none⟩) (Or.inr rfl) (.int .i64 (m : Int))
        have hsC : ((wA.setCell ⟨X, x, none⟩ (.int .i64 fx)).setCell ⟨Y, x, none⟩ (.int .i64 (m : Int))).heap.size = wc.heap.size := by simp [hsA]
        generalize (wA.setCell ⟨X, x, none⟩ (.int .i64 fx)).setCell ⟨Y, x, none⟩ (.int .i64 (m : Int)) = wC at *
        have hbD : Below wC.heap.size wC (wC.alloc (.cells #[.int .i64 ((j : Int) + 1)] 3)) := (Below.refl _ _).alloc (Nat.le_refl _) _
        have hgD := Blk.new wC 3 #[.int .i64 ((j : Int) + 1)]
        rw [hsC] at hgD
        refine ⟨⟨j + 1, wc.heap.size, some g7, b :: W9, _, _, rfl, by simpa using hgD, by have := hFC.size; omega, by rw [e9]; exact RowI.callee hWC hbD, by simp; omega, hWH, hD9, by omega, hXC.callee hbD, hYC.callee hbD, Fr.belowR hFC hbD⟩, ?_⟩
        have e10 : jOf (wC.alloc (.cells #[.int .i64 ((j : Int) + 1)] 3)) (.pointer (some ⟨wc.heap.size, 0, none⟩)) = j + 1 := by
          have h1 := hgD.cell 0
          unfold jOf
          simp only [h1]
          show ((j : Int) + 1).toNat = j + 1
          omega
        rw [e10, hjO.out]
        omega
    · have hlei : decide ((x : Int) ≤ N) = false := decide_eq_false (by omega)
      have hlen : decide (x ≤ N) = false := decide_eq_false (by omega)
      have hD2 := hDH.out.next (show N < r + j * s by rw [hp, hx]; omega)
      clear hp hx
      go_wp2_with (fail)
      exact hexit _ _ XL YL _ _ _ _ _ _ _ _ _ _ _ _ _ _ _ _ _ _ _ _ _ _ _ _ _ _ _ _ _ _ _ _ _ _ _ _ _ _ _ _ _ _ _ _ _ _ _ _ _ _ _ _ _ _ _ _ _ _ _ _ _ _ _ _ _ _ _ _ _ _ _ hD2 hX hY hF
end Pk
end Go.Proofs.YthbkfhhnhiplkaaGreatDoor
