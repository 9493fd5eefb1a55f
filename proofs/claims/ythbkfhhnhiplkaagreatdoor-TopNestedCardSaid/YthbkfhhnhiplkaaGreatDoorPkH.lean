/- packet's fill: the loop over the sizes. -/
import Derived.Test.YthbkfhhnhiplkaaGreatDoorPkG
import Derived.Deep.OwnRows
namespace Go.Proofs.YthbkfhhnhiplkaaGreatDoor
open Go.RowKit
namespace Pk
open Bu (natI natI_at)
/-- pairs of sizes and stock -/
def prs (ss ms : List Nat) : List (Nat × Nat) := ss.zip ms
theorem made_size (u : Value) (n : Nat) : (madeCells #[u] n).size = n := by
  rw [← Array.length_toList, toList_madeCells_one, List.length_replicate]
theorem prs_at {ss ms : List Nat} {k s m : Nat} (h1 : ss[k]? = some s) (h2 : ms[k]? = some m) : (prs ss ms)[k]? = some (s, m) := by
  rw [prs, List.getElem?_zip_eq_some]
  exact ⟨h1, h2⟩
/-- the rows that are chosen from the m-th size on -/
def Cho (w : World) (ps : List (Nat × Nat)) (N : Nat) (CS : Array Value) (m : Nat) : Prop := CS.size = ps.length ∧
  ∀ k p, m ≤ k → ps[k]? = some p → ∃ Y, CS[k]? = some (.slice (some ⟨Y, 0, none⟩) (N + 1) (N + 1)) ∧ Blk w Y 3 (intArr (stepB (fewL N (ps.drop (k + 1))) p.1 p.2 N))
theorem Cho.below {w w' : World} {ps : List (Nat × Nat)} {N m B : Nat} {CS : Array Value} (h : Cho w ps N CS m) (hB : w.heap.size ≤ B) (hb : Below B w w') : Cho w' ps N CS m :=
  ⟨h.1, fun k p hk hp => by
    obtain ⟨Y, h1, h2⟩ := h.2 k p hk hp
    exact ⟨Y, h1, h2.below hb (Nat.lt_of_lt_of_le h2.lt hB)⟩⟩
/-- what stands ahead of a size's round -/
structure L2 (w wr : World) (T : Array Value) (g2 g6 gC : Nat) (ps : List (Nat × Nat)) (N m F : Nat) (CS : Array Value) : Prop where
  st : Blk wr g2 191 T
  six : Blk wr g6 28 #[.slice (some ⟨F, 0, none⟩) (N + 1) (N + 1)]
  row : Blk wr F 3 (intArr (fewL N (ps.drop m)))
  ch : Blk wr gC 28 CS
  cho : Cho wr ps N CS m
  be : Below w.heap.size w wr
theorem L2.below {w wr wr' : World} {T : Array Value} {g2 g6 gC : Nat} {ps : List (Nat × Nat)} {N m F : Nat} {CS : Array Value} (h : L2 w wr T g2 g6 gC ps N m F CS) (hb : Below wr.heap.size wr wr') : L2 w wr' T g2 g6 gC ps N m F CS :=
  ⟨h.st.callee hb, h.six.callee hb, h.row.callee hb, h.ch.callee hb, h.cho.below (Nat.le_refl _) hb, h.be.trans (hb.mono h.be.size)⟩
theorem Blk.fr {S : Nat → Prop} {w w' : World} {g : Nat} {t : TypeId} {cs : Array Value} (h : Blk w g t cs) (hF : Fr S w w') (hS : ¬ S g) : Blk w' g t cs := (hF.block g h.lt hS).trans h
theorem L2.done {w w12 w13 w5 : World} {T : Array Value} {g2 g6 gC : Nat} {ps : List (Nat × Nat)} {N k F X Y s mo : Nat} {CS : Array Value} (h : L2 w w12 T g2 g6 gC ps N (k + 1) F CS) (hb : Below w12.heap.size w12 w13) (hgX : w12.heap.size ≤ X) (hgY : w12.heap.size ≤ Y)
    (hF : Fr (fun i => i = X ∨ i = Y) w13 w5) (hX : Blk w5 X 3 (intArr (stepF (fewL N (ps.drop (k + 1))) s mo N))) (hY : Blk w5 Y 3 (intArr (stepB (fewL N (ps.drop (k + 1))) s mo N))) (hpk : ps[k]? = some (s, mo))
    (hge6 : w.heap.size ≤ g6) (hgeC : w.heap.size ≤ gC) (hne : g6 ≠ gC) :
    L2 w ((w5.setCell ⟨g6, 0, none⟩ (.slice (some ⟨X, 0, none⟩) (N + 1) (N + 1))).setCell ⟨gC, k, none⟩ (.slice (some ⟨Y, 0, none⟩) (N + 1) (N + 1))) T g2 g6 gC ps N k X (CS.setIfInBounds k (.slice (some ⟨Y, 0, none⟩) (N + 1) (N + 1))) := by
  have hdrop : ps.drop k = (s, mo) :: ps.drop (k + 1) := by
    obtain ⟨hk, he⟩ := List.getElem?_eq_some_iff.1 hpk
    rw [List.drop_eq_getElem_cons hk, he]
  have m5 : ∀ {g : Nat} {t : TypeId} {cs : Array Value}, Blk w12 g t cs → Blk w5 g t cs := fun {g _ _} hg => by
    have hl := hg.lt
    exact Blk.fr (hg.callee hb) hF (by show ¬ (g = X ∨ g = Y); omega)
  have hst := m5 h.st
  have hsix := m5 h.six
  have hch := m5 h.ch
  have n1 : g2 ≠ g6 := hst.ne_ hsix (by decide)
  have n2 : g2 ≠ gC := hst.ne_ hch (by decide)
  have far : ∀ {g : Nat} {cs : Array Value}, Blk w5 g 3 cs → Blk ((w5.setCell ⟨g6, 0, none⟩ (.slice (some ⟨X, 0, none⟩) (N + 1) (N + 1))).setCell ⟨gC, k, none⟩ (.slice (some ⟨Y, 0, none⟩) (N + 1) (N + 1))) g 3 cs := fun hg =>
    (hg.far (p := ⟨g6, 0, none⟩) (hg.ne_ hsix (by decide)) _).far (p := ⟨gC, k, none⟩) (hg.ne_ hch (by decide)) _
  refine ⟨(hst.far (p := ⟨g6, 0, none⟩) n1 _).far (p := ⟨gC, k, none⟩) n2 _, ?_, ?_, ?_, ⟨?_, fun k' p hk' hp => ?_⟩, ?_⟩
  · exact (hsix.set_ 0 (.slice (some ⟨X, 0, none⟩) (N + 1) (N + 1))).far (p := ⟨gC, k, none⟩) hne _
  · rw [hdrop, fewL]
    exact far hX
  · exact (hch.far (p := ⟨g6, 0, none⟩) (Ne.symm hne) _).set_ k _
  · rw [Array.size_setIfInBounds]; exact h.cho.1
  · have hksz : k < CS.size := by
      rw [h.cho.1]
      exact (List.getElem?_eq_some_iff.1 hpk).1
    by_cases he : k = k'
    · subst he
      rw [hpk] at hp
      injection hp with hp
      subst hp
      exact ⟨Y, by rw [Array.getElem?_setIfInBounds, if_pos rfl, if_pos hksz], far hY⟩
    · obtain ⟨Y', h1, h2⟩ := h.cho.2 k' p (by omega) hp
      exact ⟨Y', by rw [Array.getElem?_setIfInBounds, if_neg he]; exact h1, far (m5 h2)⟩
  · have h12 := h.be.size
    exact ((hF.below (h.be.trans (hb.mono h12)) (Nat.le_trans h12 hb.size) (fun i (hi : i = X ∨ i = Y) => by omega)).setCell (p := ⟨g6, 0, none⟩) hge6 _).setCell (p := ⟨gC, k, none⟩) hgeC _
set_option maxRecDepth 100000 in
set_option maxHeartbeats 400000 in
theorem loop2 (A : Option Addr) (K c : Nat) (A2 : Option Addr) (c2 : Nat) (ss ms : List Nat) (hS : Stk ss ms) (N : Nat) (hN : N ≤ 1000) (w : World) (B : Nat) (hB : B ≤ w.heap.size) (hr : RInts w B A K (natI ss)) (hr2 : RInts w B A2 K (natI ms))
    (T : Array Value) (hT0 : T[0]? = some (.slice A K c)) (hT1 : T[1]? = some (.slice A2 K c2)) (ps : List (Nat × Nat)) (hps : prs ss ms = ps) (hpl : ps.length = K) (hK5 : K ≤ 5)
    (g2 g6 gC : Nat) (hge6 : w.heap.size ≤ g6) (hgeC : w.heap.size ≤ gC) (hne : g6 ≠ gC)
    (v9 : Value) (s0 s3 s4 s5 s7 s10 s11 s12 s13 s14 s15 s16 s17 s18 s19 s20 s21 s22 s23 s24 s25 s26 s27 s28 s29 s30 s31 s32 s33 s34 s35 s36 s37 s38 s39 s40 s41 s42 s43 s44 s45 s46 s47 s48 s49 s50 s51 s52 s53 s54 s55 s56 s57 s58 s59 s60 s61 s62 s63 s64 s65 s66 s67 s68 s69 s70 s71 s72 s73 s74 s75 s76 s77 s78 s79 s80 s81 s82 s83 s84 s85 s86 s87 s88 s89 s90 s91 s92 s93 s94 s95 s96 s97 s98 s99 s100 s101 s102 s103 s104 s105 s106 s107 s108 s109 s110 s111 s112 s113 s114 s115 s116 s117 s118 s119 s120 s121 s122 s123 s124 s125 s126 s127 s128 s129 s130 s131 s132 s133 s134 s135 s136 s137 s138 s139 s140 s141 s142 s143 s144 s145 s146 s147 s148 s149 s150 s151 s152 s153 s154 s155 s156 s157 s158 s159 s160 s161 s162 s163 s164 s165 s166 s167 s168 s169 s170 s171 s172 s173 s174 s175 s176 s177 : Value) (Q0 : Exit → Act → World → Prop) (w0 : World) (F0 : Nat) (CS0 : Array Value) (h9 : v9 = .int .i64 ((K : Int) - 1)) (hL0 : L2 w w0 T g2 g6 gC ps N K F0 CS0)
    (hexit : ∀ (v : Value) (F : Nat) (CS : Array Value) (u10 u11 u12 u13 u14 u15 u16 u17 u18 u44 u45 u46 u47 u48 u49 u50 u51 u52 u53 u54 u55 u56 u57 u58 u59 u60 u61 u62 u63 u64 u65 u66 u67 u68 u69 u70 u71 u72 u73 u74 u75 u76 u77 u78 u79 u80 u81 u82 u83 u84 u85 u86 u87 u88 u89 u90 u91 u92 u93 u94 u95 u96 u97 u98 u99 u100 u101 u102 u103 u104 u105 u106 u107 u108 u109 u110 u111 u112 u113 u114 u115 u116 u117 u118 u119 u120 u121 u122 u123 u124 u125 u126 u127 u128 u129 u130 u131 u132 u133 u134 u135 u136 u137 u138 u139 u140 u141 u142 u143 u144 : Value) (w' : World), L2 w w' T g2 g6 gC ps N 0 F CS → Q0 (.exit 2) ⟨(s0 :: (.int .i64 (N : Int)) :: (.pointer (some ⟨g2, 0, none⟩)) :: s3 :: s4 :: s5 :: (.pointer (some ⟨g6, 0, none⟩)) :: s7 :: (.slice (some ⟨gC, 0, none⟩) K K) :: v :: u10 :: u11 :: u12 :: u13 :: u14 :: u15 :: u16 :: u17 :: u18 :: s19 :: s20 :: s21 :: s22 :: s23 :: s24 :: s25 :: s26 :: s27 :: s28 :: s29 :: s30 :: s31 :: s32 :: s33 :: s34 :: s35 :: s36 :: s37 :: s38 :: s39 :: s40 :: s41 :: s42 :: s43 :: u44 :: u45 :: u46 :: u47 :: u48 :: u49 :: u50 :: u51 :: u52 :: u53 :: u54 :: u55 :: u56 :: u57 :: u58 :: u59 :: u60 :: u61 :: u62 :: u63 :: u64 :: u65 :: u66 :: u67 :: u68 :: u69 :: u70 :: u71 :: u72 :: u73 :: u74 :: u75 :: u76 :: u77 :: u78 :: u79 :: u80 :: u81 :: u82 :: u83 :: u84 :: u85 :: u86 :: u87 :: u88 :: u89 :: u90 :: u91 :: u92 :: u93 :: u94 :: u95 :: u96 :: u97 :: u98 :: u99 :: u100 :: u101 :: u102 :: u103 :: u104 :: u105 :: u106 :: u107 :: u108 :: u109 :: u110 :: u111 :: u112 :: u113 :: u114 :: u115 :: u116 :: u117 :: u118 :: u119 :: u120 :: u121 :: u122 :: u123 :: u124 :: u125 :: u126 :: u127 :: u128 :: u129 :: u130 :: u131 :: u132 :: u133 :: u134 :: u135 :: u136 :: u137 :: u138 :: u139 :: u140 :: u141 :: u142 :: u143 :: u144 :: s145 :: s146 :: s147 :: s148 :: s149 :: s150 :: s151 :: s152 :: s153 :: s154 :: s155 :: s156 :: s157 :: s158 :: s159 :: s160 :: s161 :: s162 :: s163 :: s164 :: s165 :: s166 :: s167 :: s168 :: s169 :: s170 :: s171 :: s172 :: s173 :: s174 :: s175 :: s176 :: s177 :: []).toArray, []⟩ w') :
    Code.wp Tryz.prog (Code.loop (lp 1)) Q0 ⟨(s0 :: (.int .i64 (N : Int)) :: (.pointer (some ⟨g2, 0, none⟩)) :: s3 :: s4 :: s5 :: (.pointer (some ⟨g6, 0, none⟩)) :: s7 :: (.slice (some ⟨gC, 0, none⟩) K K) :: v9 :: s10 :: s11 :: s12 :: s13 :: s14 :: s15 :: s16 :: s17 :: s18 :: s19 :: s20 :: s21 :: s22 :: s23 :: s24 :: s25 :: s26 :: s27 :: s28 :: s29 :: s30 :: s31 :: s32 :: s33 :: s34 :: s35 :: s36 :: s37 :: s38 :: s39 :: s40 :: s41 :: s42 :: s43 :: s44 :: s45 :: s46 :: s47 :: s48 :: s49 :: s50 :: s51 :: s52 :: s53 :: s54 :: s55 :: s56 :: s57 :: s58 :: s59 :: s60 :: s61 :: s62 :: s63 :: s64 :: s65 :: s66 :: s67 :: s68 :: s69 :: s70 :: s71 :: s72 :: s73 :: s74 :: s75 :: s76 :: s77 :: s78 :: s79 :: s80 :: s81 :: s82 :: s83 :: s84 :: s85 :: s86 :: s87 :: s88 :: s89 :: s90 :: s91 :: s92 :: s93 :: s94 :: s95 :: s96 :: s97 :: s98 :: s99 :: s100 :: s101 :: s102 :: s103 :: s104 :: s105 :: s106 :: s107 :: s108 :: s109 :: s110 :: s111 :: s112 :: s113 :: s114 :: s115 :: s116 :: s117 :: s118 :: s119 :: s120 :: s121 :: s122 :: s123 :: s124 :: s125 :: s126 :: s127 :: s128 :: s129 :: s130 :: s131 :: s132 :: s133 :: s134 :: s135 :: s136 :: s137 :: s138 :: s139 :: s140 :: s141 :: s142 :: s143 :: s144 :: s145 :: s146 :: s147 :: s148 :: s149 :: s150 :: s151 :: s152 :: s153 :: s154 :: s155 :: s156 :: s157 :: s158 :: s159 :: s160 :: s161 :: s162 :: s163 :: s164 :: s165 :: s166 :: s167 :: s168 :: s169 :: s170 :: s171 :: s172 :: s173 :: s174 :: s175 :: s176 :: s177 :: []).toArray, []⟩ w0 := by
  conv => arg 2; arg 1; whnf
  have hSH := Lib.hid hS
  have hpsH := Lib.hid hps
  have hmk := run_make_row' (P := Tryz.prog) 28 3 (.int .i64 0) 8 Tryz.underlying28 infoInt rfl .i64 .i64 (N + 1) (by omega) (by omega)
  have hN1 : ((N + 1 : Nat) : Int) = (N : Int) + 1 := by omega
  rw [hN1] at hmk
  clear hS hps hN1
  go_loopw [9] (fun v wr => ∃ (m F : Nat) (CS : Array Value), m ≤ K ∧ v = .int .i64 ((m : Int) - 1) ∧ L2 w wr T g2 g6 gC ps N m F CS) (fun v _ => (intOf v + 1).toNat)
  case atStart => exact ⟨K, F0, _, Nat.le_refl _, h9, hL0⟩
  case round =>
    clear hL0 h9
    obtain ⟨m, F, CS, hm, hv, hL⟩ := hrel
    cases m with
    | succ k =>
      have hv2 := hv.trans (show Value.int .i64 (((k + 1 : Nat) : Int) - 1) = Value.int .i64 (k : Int) by congr 1; omega)
      clear hv
      subst hv2
      have hb := hL.be
      obtain ⟨ad, z, rfl, hadb, hcs, hz⟩ := (hr.later hB hb).at_ (show k < K by omega)
      obtain ⟨s, hs, rfl⟩ := natI_at hz.out
      obtain ⟨ad2, z2, rfl, hadb2, hcm, hz2⟩ := (hr2.later hB hb).at_ (show k < K by omega)
      obtain ⟨mo, hmo, rfl⟩ := natI_at hz2.out
      have hsr := hSH.out.siz.rng s (List.mem_of_getElem? hs)
      have hmor := hSH.out.rng mo (List.mem_of_getElem? hmo)
      have hpk := prs_at hs hmo
      rw [hpsH.out] at hpk
      clear hs hmo hz hz2
      have hc20 : wr.cell? ⟨g2, 0, none⟩ = some (.slice (some ad) K c) := by rw [hL.st.cell]; exact hT0
      have hc21 : wr.cell? ⟨g2, 1, none⟩ = some (.slice (some ad2) K c2) := by rw [hL.st.cell]; exact hT1
      have hcsA : ∀ u : Int, (wr.alloc (.cells #[.int .i64 u] 3)).cell? (ad.add k) = some (.int .i64 (s : Int)) := by
        intro u; rw [World.cell?_alloc_lt _ _ _ (by rw [block_of_add]; have := hb.size; omega)]; exact hcs
      have hcmA : ∀ u : Int, (wr.alloc (.cells #[.int .i64 u] 3)).cell? (ad2.add k) = some (.int .i64 (mo : Int)) := by
        intro u; rw [World.cell?_alloc_lt _ _ _ (by rw [block_of_add]; have := hb.size; omega)]; exact hcm
      have hc20A : ∀ u : Int, (wr.alloc (.cells #[.int .i64 u] 3)).cell? ⟨g2, 0, none⟩ = some (.slice (some ad) K c) := fun u => ((hL.st.alloc _).cell 0).trans hT0
      have hc21A : ∀ u : Int, (wr.alloc (.cells #[.int .i64 u] 3)).cell? ⟨g2, 1, none⟩ = some (.slice (some ad2) K c2) := fun u => ((hL.st.alloc _).cell 1).trans hT1
      have hki : (k : Int) < K := by omega
      have hk0 : (0 : Int) ≤ k := by omega
      obtain ⟨wk, rfl⟩ : ∃ x, x = wr := ⟨wr, rfl⟩
      go_upto_region 12 with (fail)
      go_region_held3 (fun w' => w'.cell? ⟨g2, 0, none⟩ = some (.slice (some ad) K c) ∧ w'.cell? ⟨g2, 1, none⟩ = some (.slice (some ad2) K c2) ∧ w'.cell? (ad.add k) = some (.int .i64 (s : Int)) ∧ w'.cell? (ad2.add k) = some (.int .i64 (mo : Int)))
        (first | exact ⟨hc20, hc21, hcs, hcm⟩ | exact ⟨hc20A _, hc21A _, hcsA _, hcmA _⟩)
        (first | fail)
      have h10 : Blk (wk.alloc (.cells #[.int .i64 (s : Int)] 3)).drew wk.heap.size 3 #[.int .i64 (s : Int)] := Blk.new wk _ _
      have hb12 : Below wk.heap.size wk (wk.alloc (.cells #[.int .i64 (s : Int)] 3)).drew := ((Below.refl wk.heap.size wk).alloc (Nat.le_refl _) _).drew
      have hlt10 := h10.lt
      clear hcsA hcmA hc20A hc21A hc20 hc21 hcs hcm
      have hL12 := hL.below hb12
      have hge10 : w.heap.size ≤ wk.heap.size := hb.size
      clear hb hb12 hL
      generalize (wk.alloc (.cells #[.int .i64 (s : Int)] 3)).drew = w12 at *
      generalize wk.heap.size = g10 at *
      clear wk
      go_upto_region 13 with (fail)
      go_cut [12, 13] from 58 to 63 (fun v12 v13 wx => ∃ X Y : Nat, v12 = .slice (some ⟨X, 0, none⟩) (N + 1) (N + 1) ∧ v13 = .slice (some ⟨Y, 0, none⟩) (N + 1) (N + 1) ∧ Blk wx X 3 (intArr (List.replicate (N + 1) 0)) ∧ Blk wx Y 3 (intArr (List.replicate (N + 1) 0)) ∧ X ≠ Y ∧ w12.heap.size ≤ X ∧ w12.heap.size ≤ Y ∧ Below w12.heap.size w12 wx)
      case first =>
        go_region
        all_goals (try rw [intArr_made])
        all_goals go_wp2_with (fail)
        all_goals go_meet
        · exact ⟨_, _, rfl, rfl, heap_alloc2_old _ _ _, heap_alloc2_new _ _ _, by omega, by omega, by omega, (((Below.refl w12.heap.size w12).alloc (Nat.le_refl _) _).alloc (by simp) _).drew⟩
        · exact ⟨_, _, rfl, rfl, heap_alloc2_new _ _ _, heap_alloc2_old _ _ _, by omega, by omega, by omega, (((Below.refl w12.heap.size w12).alloc (Nat.le_refl _) _).alloc (by simp) _).drew⟩
      case rest =>
        obtain ⟨X, Y, rfl, rfl, hX, hY, hXY, hgX, hgY, hb13⟩ := hcut
        obtain ⟨w13, rfl⟩ : ∃ x, x = wc := ⟨wc, rfl⟩
        have hL13 := hL12.below hb13
        have h10c := h10.callee hb13
        have hl6 := hL12.six.lt
        have hlF := hL12.row.lt
        clear h10 hmk
        have hc10 : w13.cell? ⟨g10, 0, none⟩ = some (.int .i64 (s : Int)) := h10c.cell 0
        obtain ⟨R, hR⟩ : ∃ R, min s (N + 1) = R := ⟨_, rfl⟩
        have hRH := Lib.hid hR
        have hRs : R ≤ s := by omega
        have hmn : min (s : Int) ((N : Int) + 1) = R := by omega
        clear hR
        have hL3 : L3 w13 g6 g10 F X Y N (fewL N (ps.drop (k + 1))) s :=
          ⟨hL13.six.cell 0, hc10, fun x hx => by
            have hlen := few_len N (ps.drop (k + 1))
            rw [hL13.row.cell, intArr_at, List.getD_eq_getElem?_getD, List.getElem?_eq_getElem (by omega)]
            rfl, by omega, by omega, by omega, hXY, hX.lt, hY.lt⟩
        have hlen0 := hX.lt
        clear hlen0
        go_wp2_with (fail)
        clear hmn
        refine loop3 N g6 g10 F X Y s mo R (fewL N (ps.drop (k + 1))) _ _ hN hsr hmor hRs (few_rng N _) _ _ _ _ _ _ _ _ _ _ _ _ _ _ _ _ _ _ _ _ _ _ _ _ _ _ _ _ _ _ _ _ _ _ _ _ _ _ _ _ _ _ _ _ _ _ _ _ _ _ _ _ _ _ _ _ _ _ _ _ _ _ _ _ _ _ _ _ _ _ _ _ _ _ _ _ _ _ _ _ _ _ _ _ _ _ _ _ _ _ _ _ _ _ _ _ _ _ _ _ _ _ _ _ _ _ _ _ _ _ _ _ _ _ _ _ _ _ _ _ _ _ _ _ _ _ _ _ _ _ _ _ _ _ _ _ _ _ _ _ _ _ _ _ _ _ _ _ _ _ _ _ _ _ _ _ _ _ _ _ _ _ _ _ _ _ _ _ _ _ _ _ w13 hL3 rfl (Dn.start _ _ _ _) hX hY ?_
        intro v68 XL YL t14 t15 t16 t17 t18 t69 t70 t71 t72 t73 t74 t75 t76 t77 t78 t79 t80 t81 t82 t83 t84 t85 t86 t87 t88 t89 t90 t91 t92 t93 t94 t95 t96 t97 t98 t99 t100 t101 t102 t103 t104 t105 t106 t107 t108 t109 t110 t111 t112 t113 t114 t115 t116 t117 t118 t119 t120 t121 t122 t123 t124 t125 t126 t127 t128 t129 t130 t131 t132 t133 t134 t135 t136 t137 t138 t139 w5 hD5 hX5 hY5 hF5
        obtain ⟨rfl, rfl⟩ := hD5.whole hsr.1 (Nat.le_of_eq hRH.out)
        have hL6 := Lib.hid (L2.done hL12 hb13 hgX hgY hF5 hX5 hY5 hpk hge6 hgeC hne)
        have hsix5 := Blk.fr hL13.six hF5 (by show ¬ (g6 = X ∨ g6 = Y); omega)
        have hlC := hL12.ch.lt
        have hch5 := Blk.fr hL13.ch hF5 (by show ¬ (gC = X ∨ gC = Y); omega)
        have hc65 : w5.cell? ⟨g6, 0, none⟩ = some (.slice (some ⟨F, 0, none⟩) (N + 1) (N + 1)) := hsix5.cell 0
        have hf65 := hsix5.frozen 0
        have hfC5 := hch5.frozen k
        have hkC : k < CS.size := by rw [hL12.cho.1]; omega
        have hcC5 : w5.cell? ⟨gC, k, none⟩ = some CS[k] := by rw [hch5.cell]; exact Array.getElem?_eq_getElem hkC
        generalize CS[k] = uC at *
        clear hX hY hX5 hY5 hF5 hL13 hL12 hb13 hL3 h10c hc10 hD5 hsix5 hch5
        go_wp2_with (fail)
        go_roundw
        case rel => exact ⟨k, X, _, by omega, rfl, hL6.out⟩
        case measure => simp only [intOf]; omega
    | zero =>
      have hv2 := hv.trans (show Value.int .i64 (((0 : Nat) : Int) - 1) = Value.int .i64 (-1) from rfl)
      clear hv
      subst hv2
      go_wp2_with (fail)
      exact hexit _ F CS _ _ _ _ _ _ _ _ _ _ _ _ _ _ _ _ _ _ _ _ _ _ _ _ _ _ _ _ _ _ _ _ _ _ _ _ _ _ _ _ _ _ _ _ _ _ _ _ _ _ _ _ _ _ _ _ _ _ _ _ _ _ _ _ _ _ _ _ _ _ _ _ _ _ _ _ _ _ _ _ _ _ _ _ _ _ _ _ _ _ _ _ _ _ _ _ _ _ _ _ _ _ _ _ _ _ _ _ _ _ _ hL
end Pk
end Go.Proofs.YthbkfhhnhiplkaaGreatDoor
