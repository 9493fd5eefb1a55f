/- packet's fill. -/
import Derived.Test.YthbkfhhnhiplkaaGreatDoorPkI
import Derived.Deep.OwnRows
namespace Go.Proofs.YthbkfhhnhiplkaaGreatDoor
open Go.RowKit
namespace Pk
open Bu (natI natI_at)
theorem infoSl : (Tryz.prog.info? 28).map (fun i => (i.zero, i.size, i.bytes)) = some (some (.slice none 0 0), 1, 24) := by kernel_rfl
theorem own_mono {w : World} {b b' : Nat} {v : Value} {xs : List Int} (h : OwnI w b v xs) (hle : b' ≤ b) : OwnI w b' v xs := by
  refine ⟨h.1, ?_⟩
  rcases h.2 with h0 | ⟨g, cap, cur, e, hb, r⟩
  · exact .inl h0
  · exact .inr ⟨g, cap, cur, e, Nat.le_trans hle hb, r⟩
/-- what fill returns -/
def fillE (N : Nat) (ps : List (Nat × Nat)) : Int := if (fewL N ps).getD N 0 = 1001 then 12 else 0
def fillV (N : Nat) (ps : List (Nat × Nat)) : List Int := if (fewL N ps).getD N 0 = 1001 then [] else takeL N ps N
set_option maxRecDepth 100000 in
set_option maxHeartbeats 4000000 in
theorem fill_ok (A : Option Addr) (K c : Nat) (A2 : Option Addr) (c2 : Nat) (ss ms : List Nat) (hS : Stk ss ms) (N : Nat) (hN : N ≤ 1000) (w : World) (B : Nat) (hB : B ≤ w.heap.size) (hr : RInts w B A K (natI ss)) (hr2 : RInts w B A2 K (natI ms)) :
    Calls Tryz.prog 116 #[.agg (stC A K c A2 K c2), .int .i64 (N : Int)] w fun e w' => (∃ v, e = .returned (.tuple #[v, .int .i64 (fillE N (prs ss ms))]) ∧ OwnI w' w.heap.size v (fillV N (prs ss ms))) ∧ Below w.heap.size w w' := by
  have hK1 : ss.length = K := by simpa [natI] using hr.len
  have hSH := Lib.hid hS
  have h1 := hS.siz.one
  have h5 := hS.siz.five
  have hK5 : K ≤ 5 := by omega
  have hpl : (prs ss ms).length = K := by have := hS.len; simp [prs]; omega
  obtain ⟨T, hT⟩ : ∃ T, stC A K c A2 K c2 = T := ⟨_, rfl⟩
  have hT0 : T[0]? = some (.slice A K c) := by rw [← hT]; rfl
  have hT1 : T[1]? = some (.slice A2 K c2) := by rw [← hT]; rfl
  obtain ⟨ps, hps⟩ : ∃ p, prs ss ms = p := ⟨_, rfl⟩
  have hpsH := Lib.hid hps
  rw [hT, hps]
  rw [hps] at hpl
  clear hT hps hS
  obtain ⟨EE, hEE⟩ : ∃ q, fillE N ps = q := ⟨_, rfl⟩
  obtain ⟨VV, hVV⟩ : ∃ q, fillV N ps = q := ⟨_, rfl⟩
  rw [hEE, hVV]
  replace hEE := Lib.hid hEE
  replace hVV := Lib.hid hVV
  have hmk := run_make_row' (P := Tryz.prog) 28 3 (.int .i64 0) 8 Tryz.underlying28 infoInt rfl .i64 .i64 (N + 1) (by omega) (by omega)
  have hmkS := run_make_row' (P := Tryz.prog) 212 28 (.slice none 0 0) 24 Tryz.underlying212 infoSl rfl .i64 .i64 K (by omega) (by omega)
  have hN1 : ((N + 1 : Nat) : Int) = (N : Int) + 1 := by omega
  rw [hN1] at hmk
  go_enter Tryz.func116, Tryz.ntmps116
  go_wp2_with (first
    | (with_reducible show wpList _ _ _ (⟨_, .box 191 (.tmp 0), _, _, _, _⟩ :: _) _ _
       refine wpList_box_blk rfl 191 _ rfl T rfl ?_
       intro w1 g2 hG2 hgr hge
       have hb1 := below_none (Below.refl w.heap.size w) hgr (Nat.le_refl _)))
  rw [intArr_made]
  have hF0 := Blk.new w1 3 (intArr (List.replicate (N + 1) 0))
  go_loopw [27] (fun v wr => ∃ i : Nat, i ≤ N + 1 ∧ v = .int .i64 i ∧ Blk wr w1.heap.size 3 (intArr (fillI (N + 1) (List.replicate (N + 1) 1001) i)) ∧ Blk wr (w1.heap.size + 1) 28 #[.slice (some ⟨w1.heap.size, 0, none⟩) (N + 1) (N + 1)] ∧ Blk wr g2 191 T ∧ Below w.heap.size w wr) (fun v _ => N + 1 - (intOf v).toNat)
  case atStart => exact ⟨0, by omega, rfl, by rw [fillI_zero]; exact heap_alloc2_old _ _ _, heap_alloc2_new _ _ _, (hG2.alloc _).alloc _, (hb1.alloc hb1.size _).alloc (by have := hb1.size; simp; omega) _⟩
  case round =>
    have hsz1 := hb1.size
    clear hF0 hb1 hG2
    obtain ⟨i, hi, rfl, hF, h6, hG2, hb⟩ := hrel
    have hfl : (List.replicate (N + 1) (1001 : Int)).length = N + 1 := by simp
    by_cases hlt : i < N + 1
    · have hlti : (i : Int) < N + 1 := by omega
      have hc0 : wr.cell? ⟨w1.heap.size, i, none⟩ = some (.int .i64 0) := by rw [hF.cell, intArr_at, fillI_at hfl hlt]; rfl
      have hf0 := hF.frozen i
      have hc6 : wr.cell? ⟨w1.heap.size + 1, 0, none⟩ = some (.slice (some ⟨w1.heap.size, 0, none⟩) (N + 1) (N + 1)) := by rw [h6.cell]; rfl
      have hF1 : Blk (wr.setCell ⟨w1.heap.size, i, none⟩ (.int .i64 1001)) w1.heap.size 3 (intArr (fillI (N + 1) (List.replicate (N + 1) 1001) (i + 1))) := by
        have := hF.set_ i (.int .i64 1001)
        rwa [intArr_set, fillI_set hfl (by rw [List.getElem?_replicate, if_pos hlt])] at this
      have h61 := h6.far (p := ⟨w1.heap.size, i, none⟩) (by simp) (.int .i64 1001)
      have hG21 := hG2.far (p := ⟨w1.heap.size, i, none⟩) (hG2.ne_ hF (by decide)) (.int .i64 1001)
      have hb2 := hb.setCell (p := ⟨w1.heap.size, i, none⟩) hsz1 (.int .i64 1001)
      clear hfl
      go_wp2_with (fail)
      go_roundw
      case rel => exact ⟨i + 1, by omega, by go_num, hF1, h61, hG21, hb2⟩
      case measure => simp only [intOf]; omega
    · have hlti : ¬ (i : Int) < N + 1 := by omega
      obtain rfl : i = N + 1 := by omega
      rw [fillI_end hfl] at hF
      have hc0 : wr.cell? ⟨w1.heap.size, 0, none⟩ = some (.int .i64 1001) := by rw [hF.cell, intArr_at]; rfl
      have hf0 := hF.frozen 0
      have hc6 : wr.cell? ⟨w1.heap.size + 1, 0, none⟩ = some (.slice (some ⟨w1.heap.size, 0, none⟩) (N + 1) (N + 1)) := by rw [h6.cell]; rfl
      have hc2 : wr.cell? ⟨g2, 0, none⟩ = some (.slice A K c) := by rw [hG2.cell]; exact hT0
      have hFN : Blk (wr.setCell ⟨w1.heap.size, 0, none⟩ (.int .i64 0)) w1.heap.size 3 (intArr (fewL N (ps.drop K))) := by
        have := hF.set_ 0 (.int .i64 0)
        rw [intArr_set, List.replicate_succ, List.set_cons_zero] at this
        rwa [List.drop_of_length_le (by omega), fewL]
      have h6N := h6.far (p := ⟨w1.heap.size, 0, none⟩) (by simp) (.int .i64 0)
      have hne2 := hG2.ne_ hF (by decide)
      have hG2N := hG2.far (p := ⟨w1.heap.size, 0, none⟩) hne2 (.int .i64 0)
      have hbN := hb.setCell (p := ⟨w1.heap.size, 0, none⟩) hsz1 (.int .i64 0)
      have hc2N : (wr.setCell ⟨w1.heap.size, 0, none⟩ (.int .i64 0)).cell? ⟨g2, 0, none⟩ = some (.slice A K c) := by rw [hG2N.cell]; exact hT0
      have hge6 : w.heap.size ≤ w1.heap.size + 1 := by omega
      have hlt2 := hG2.lt
      clear hF h6 hG2 hb hfl hge hgr
      generalize w1.heap.size = F0 at *
      generalize F0 + 1 = g6 at *
      clear w1
      have hgeC := hbN.size
      have h6C := h6N.lt
      go_wp2_with (fail)
      have hCN := Blk.new (wr.setCell ⟨F0, 0, none⟩ (.int .i64 0)) 28 (madeCells #[.slice none 0 0] K)
      replace hFN := hFN.alloc (.cells (madeCells #[.slice none 0 0] K) 28)
      replace h6N := h6N.alloc (.cells (madeCells #[.slice none 0 0] K) 28)
      replace hG2N := hG2N.alloc (.cells (madeCells #[.slice none 0 0] K) 28)
      replace hbN := hbN.alloc hgeC (.cells (madeCells #[.slice none 0 0] K) 28)
      have hsz : (wr.setCell ⟨F0, 0, none⟩ (.int .i64 0)).heap.size = wr.heap.size := by simp
      rw [hsz] at hCN hgeC h6C
      clear hc2N hc6 hf0 hc0 hc2 hlt2 hmkS hN1 hsz hne2 hsz1
      generalize wr.heap.size = gC at *
      generalize (wr.setCell ⟨F0, 0, none⟩ (.int .i64 0)).alloc (.cells (madeCells #[.slice none 0 0] K) 28) = w0 at *
      have hL0 : L2 w w0 T g2 g6 gC ps N K F0 (madeCells #[.slice none 0 0] K) :=
        ⟨hG2N, h6N, hFN, hCN, ⟨by rw [made_size, hpl], fun k p hk hp => by
          have := (List.getElem?_eq_some_iff.1 hp).1
          omega⟩, hbN⟩
      clear hG2N h6N hFN hCN hbN
      have hne6 : g6 ≠ gC := by omega
      have hgeC' : w.heap.size ≤ gC := by omega
      refine loop2 A K c A2 c2 ss ms hSH.out N hN w B hB hr hr2 T hT0 hT1 ps hpsH.out hpl hK5 g2 g6 gC hge6 hgeC' hne6 _ _ _ _ _ _ _ _ _ _ _ _ _ _ _ _ _ _ _ _ _ _ _ _ _ _ _ _ _ _ _ _ _ _ _ _ _ _ _ _ _ _ _ _ _ _ _ _ _ _ _ _ _ _ _ _ _ _ _ _ _ _ _ _ _ _ _ _ _ _ _ _ _ _ _ _ _ _ _ _ _ _ _ _ _ _ _ _ _ _ _ _ _ _ _ _ _ _ _ _ _ _ _ _ _ _ _ _ _ _ _ _ _ _ _ _ _ _ _ _ _ _ _ _ _ _ _ _ _ _ _ _ _ _ _ _ _ _ _ _ _ _ _ _ _ _ _ _ _ _ _ _ _ _ _ _ _ _ _ _ _ _ _ _ _ _ _ _ _ _ _ _ _ _ _ w0 F0 _ rfl hL0 ?_
      intro v9 F CS t10 t11 t12 t13 t14 t15 t16 t17 t18 t44 t45 t46 t47 t48 t49 t50 t51 t52 t53 t54 t55 t56 t57 t58 t59 t60 t61 t62 t63 t64 t65 t66 t67 t68 t69 t70 t71 t72 t73 t74 t75 t76 t77 t78 t79 t80 t81 t82 t83 t84 t85 t86 t87 t88 t89 t90 t91 t92 t93 t94 t95 t96 t97 t98 t99 t100 t101 t102 t103 t104 t105 t106 t107 t108 t109 t110 t111 t112 t113 t114 t115 t116 t117 t118 t119 t120 t121 t122 t123 t124 t125 t126 t127 t128 t129 t130 t131 t132 t133 t134 t135 t136 t137 t138 t139 t140 t141 t142 t143 t144 w2 hL2
      have hc62 : w2.cell? ⟨g6, 0, none⟩ = some (.slice (some ⟨F, 0, none⟩) (N + 1) (N + 1)) := hL2.six.cell 0
      obtain ⟨z, hz⟩ : ∃ z, (fewL N ps).getD N 0 = z := ⟨_, rfl⟩
      have hcF2 : w2.cell? ⟨F, N, none⟩ = some (.int .i64 z) := by
        have hlen := few_len N ps
        rw [hL2.row.cell, List.drop_zero, intArr_at, ← hz, List.getD_eq_getElem?_getD, List.getElem?_eq_getElem (by omega)]
        rfl
      have hN0 : (0 : Int) ≤ N := by omega
      have hNN : (N : Int) < N + 1 := by omega
      clear hL0
      by_cases h12 : z = 1001
      · subst h12
        have hE := Lib.hid (show EE = 12 by rw [← hEE.out]; unfold fillE; rw [if_pos hz])
        have hV := Lib.hid (show VV = [] by rw [← hVV.out]; unfold fillV; rw [if_pos hz])
        go_wp2_with (fail)
        go_ret2
        rw [hE.out, hV.out]
        exact ⟨⟨_, rfl, OwnI.nil _ _⟩, hL2.be⟩
      · have hE := Lib.hid (show EE = 0 by rw [← hEE.out]; unfold fillE; rw [if_neg (by rw [hz]; exact h12)])
        have hV := Lib.hid (show VV = takeL N ps N by rw [← hVV.out]; unfold fillV; rw [if_neg (by rw [hz]; exact h12)])
        have hzb : (z == 1001) = false := by simpa using h12
        go_wp2_with (fail)
        refine loop6 A K c ss ms hSH.out N hN B w2 (Nat.le_trans hB hL2.be.size) (hr.later hB hL2.be) T hT0 ps hpsH.out hpl hK5 g2 gC CS hL2.st hL2.ch hL2.cho _ _ _ _ _ _ _ _ _ _ _ _ _ _ _ _ _ _ _ _ _ _ _ _ _ _ _ _ _ _ _ _ _ _ _ _ _ _ _ _ _ _ _ _ _ _ _ _ _ _ _ _ _ _ _ _ _ _ _ _ _ _ _ _ _ _ _ _ _ _ _ _ _ _ _ _ _ _ _ _ _ _ _ _ _ _ _ _ _ _ _ _ _ _ _ _ _ _ _ _ _ _ _ _ _ _ _ _ _ _ _ _ _ _ _ _ _ _ _ _ _ _ _ _ _ _ _ _ _ _ _ _ _ _ _ _ _ _ _ _ _ _ _ _ _ _ _ _ _ _ _ _ _ _ _ _ _ _ _ _ _ _ _ _ _ _ _ _ _ _ _ _ _ _ _ _ rfl rfl rfl ?_
        intro z1 v19 z152 t20 t21 t153 t154 t155 t156 t157 t158 t159 t160 t161 t162 t163 t164 t165 t166 t167 t168 t169 t170 t171 t172 t173 t174 t175 t176 w7 ho7 hb7
        go_wp2_with (fail)
        go_ret2
        rw [hE.out, hV.out]
        exact ⟨⟨_, rfl, own_mono ho7 hL2.be.size⟩, hL2.be.trans (hb7.mono hL2.be.size)⟩
end Pk
end Go.Proofs.YthbkfhhnhiplkaaGreatDoor
