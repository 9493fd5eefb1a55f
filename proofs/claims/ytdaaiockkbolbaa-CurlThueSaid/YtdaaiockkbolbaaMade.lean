/- The law's made: a rule by numbers: one to four words of one size and of the first letters. -/
import Derived.Test.YtdaaiockkbolbaaTwice
import Derived.Test.YtdaaiockkbolbaaBackK
import Derived.Test.YtdaaiockkbolbaaFits
import Derived.BigQuiet
namespace Go.Proofs.Ytdaaiockkbolbaa
open Go.RowKit
theorem results_one {P : Program} {fn : Func} {p : Tmp} {ty : TypeId} (h : fn.results = #[.cell p ty]) (tmps : Array Value) (w : World) (g : Nat) (t : TypeId) (cs : Array Value) (fr : Nat × Nat) (d : TypeDesc)
    (hp : tmps.getD p undef = .pointer (some ⟨g, 0, none⟩)) (hg : w.heap[g]? = some (.cells cs t fr))
    (hu : P.underlying ty = some d) (hd : (match d with | .struct _ | .array _ _ => true | _ => false) = true) (hi : (P.info? ty).map (·.size) = some cs.size) :
    (results fn tmps).run P w = .ok (.agg cs) w := by
  have hp' : tmps[p]?.getD undef = .pointer (some ⟨g, 0, none⟩) := by simpa using hp
  simp [results, h, hp', asAddr, run_loadVar_row w g t ty cs fr d hg hu hd hi]
theorem zero_rul (w : World) : (zeroValue 38).run Try.prog w = .ok (.agg #[.slice none 0 0]) w := Try.zeroValue38 w
/-- the cells of a Twist -/
structure TwistC (cs : Array Value) (a b c : Nat) : Prop where
  size : cs.size = 27
  one : cs.all (·.oneCell') = true
  a255 : a ≤ 255
  b255 : b ≤ 255
  c255 : c ≤ 255
  c0 : cs[0]? = some (.int .u8 (a : Int))
  c1 : cs[1]? = some (.int .u8 (b : Int))
  c2 : cs[2]? = some (.int .u8 (c : Int))
  by_ : ∀ j, j < 24 → ∃ y : Nat, y ≤ 255 ∧ cs[3 + j]? = some (.int .u8 (y : Int))
/-- the words of a rule that is made: m of them, each of k letters -/
structure MadeW (ws : List ByteArray) (k : Nat) : Prop where
  size : ∀ t ∈ ws, t.size = k
  lets : ∀ t ∈ ws, lettersS (bts t) 4 = true
theorem MadeW.snoc {ws : List ByteArray} {k : Nat} {t : ByteArray} (h : MadeW ws k) (h1 : t.size = k) (h2 : lettersS (bts t) 4 = true) : MadeW (ws ++ [t]) k :=
  ⟨fun u hu => by rcases List.mem_append.1 hu with hu | hu; exact h.size u hu; rw [List.mem_singleton.1 hu]; exact h1,
   fun u hu => by rcases List.mem_append.1 hu with hu | hu; exact h.lets u hu; rw [List.mem_singleton.1 hu]; exact h2⟩
theorem letters4_add {x : Word} {r : Nat} (h : lettersS x 4 = true) (hr : r < 4) : lettersS (x ++ [(97 + r).toUInt8]) 4 = true := by
  simp only [lettersS, List.all_append, List.all_cons, List.all_nil, Bool.and_true, Bool.and_eq_true] at h ⊢
  refine ⟨h, ?_⟩
  rw [Nat.toUInt8, UInt8.toNat_ofNat', Nat.mod_eq_of_lt (by omega)]
  simp only [decide_eq_true_eq]
  omega
def RetMade (w : World) (e : Ending) (w' : World) : Prop := ∃ A n cap ws k, e = .returned (.agg #[.slice A n cap]) ∧ RStrs w' w'.heap.size A n ws ∧ MadeW ws k ∧ 1 ≤ n ∧ n ≤ 4 ∧ 1 ≤ k ∧ k ≤ 6 ∧ n ≤ cap ∧ Below w.heap.size w w'
/-- what the walk keeps -/
structure MdS (w : World) (B g g4 g5 : Nat) (cs : Array Value) (o : Value) (ws : List ByteArray) (wr : World) : Prop where
  be : Below w.heap.size w wr
  bs : B ≤ wr.heap.size
  gl : g < B
  l4 : g4 < B
  l5 : g5 < B
  bkg : Blk wr g 69 cs
  bk4 : Blk wr g4 38 #[.slice none 0 0]
  bk5 : Blk wr g5 38 #[o]
  own : OwnS wr B o ws
theorem MdS.drewN {w wr : World} {B g g4 g5 : Nat} {cs : Array Value} {o : Value} {ws : List ByteArray} (h : MdS w B g g4 g5 cs o ws wr) (n : Nat) : MdS w B g g4 g5 cs o ws (wr.drewN n) :=
  ⟨below_drewN h.be n, h.bs, h.gl, h.l4, h.l5, h.bkg.drewN n, h.bk4.drewN n, h.bk5.drewN n, h.own.drewN n⟩
theorem MdS.kept {w wr w6 : World} {B g g4 g5 x : Nat} {cs : Array Value} {o : Value} {ws : List ByteArray} (h : MdS w B g g4 g5 cs o ws wr) {ob : Obj} (hgr : (wr.alloc ob).grownBy w6 o.ownBlock) {T : TypeId} {c : Array Value} (hx : Blk wr x T c) (hB : x < B) : Blk w6 x T c :=
  (hx.alloc ob).grown hgr (fun e => by have := h.own.ge e.symm; omega)
theorem MdS.push {w wr w6 : World} {B g g4 g5 : Nat} {cs : Array Value} {o v : Value} {ws xs : List ByteArray} (h : MdS w B g g4 g5 cs o ws wr) (hw5 : w.heap.size ≤ g5) (hg5 : g ≠ g5) (h45 : g4 ≠ g5) {ob : Obj} (hgr : (wr.alloc ob).grownBy w6 o.ownBlock) (ho : OwnS w6 B v xs) :
    MdS w B g g4 g5 cs v xs (w6.setCell ⟨g5, 0, none⟩ v) := by
  have hsz : wr.heap.size ≤ (wr.alloc ob).heap.size := by simp
  have h1 := hgr.size
  refine ⟨(((h.be.alloc h.be.size ob).grown hgr (Nat.le_trans h.be.size hsz) (fun k e => ?_)).setCell (p := ⟨g5, 0, none⟩) hw5 v), ?_, h.gl, h.l4, h.l5, (h.kept hgr h.bkg h.gl).far hg5 v, (h.kept hgr h.bk4 h.l4).far h45 v, ?_, ho.set_ ?_ v⟩
  · have := h.own.ge e; have := h.l5; omega
  · have := h.bs
    simp only [World.setCell, Array.size_modify]
    omega
  · have := (h.kept hgr h.bk5 h.l5).set_ 0 v
    simpa using this
  · intro e
    have := ho.ge e
    have := h.l5
    simp only at *
    omega
set_option maxRecDepth 100000 in
set_option maxHeartbeats 4000000 in
theorem made_any (cs : Array Value) (a b c : Nat) (hT : TwistC cs a b c) (w : World) :
    Calls Try.prog 46 #[.agg cs, .int .i64 6] w (RetMade w) := by
  obtain ⟨ra, hra⟩ : ∃ r, a % 4 = r := ⟨_, rfl⟩
  obtain ⟨rb, hrb⟩ : ∃ r, b % 6 = r := ⟨_, rfl⟩
  obtain ⟨rc, hrc⟩ : ∃ r, c % 4 = r := ⟨_, rfl⟩
  obtain ⟨a1, a2⟩ := mod_facts a 4
  obtain ⟨b1, b2⟩ := mod_facts b 6
  obtain ⟨c1, c2⟩ := mod_facts c 4
  rw [hra] at a1 a2
  rw [hrb] at b1 b2
  rw [hrc] at c1 c2
  replace a1 : (a : Int) % 4 = ra := a1
  replace a2 : Int.tmod (a : Int) 4 = ra := a2
  replace b1 : (b : Int) % 6 = rb := b1
  replace b2 : Int.tmod (b : Int) 6 = rb := b2
  replace c1 : (c : Int) % 4 = rc := c1
  replace c2 : Int.tmod (c : Int) 4 = rc := c2
  have hra4 : ra < 4 := by omega
  have hrb6 : rb < 6 := by omega
  have hrc4 : rc < 4 := by omega
  obtain ⟨N, hN⟩ : ∃ N, 1 + ra = N := ⟨_, rfl⟩
  obtain ⟨K, hK⟩ : ∃ K, 1 + rb = K := ⟨_, rfl⟩
  obtain ⟨M, hM⟩ : ∃ M, 1 + rc = M := ⟨_, rfl⟩
  have hNi : (1 : Int) + ra = N := by omega
  have hKi : (1 : Int) + rb = K := by omega
  have hMi : (1 : Int) + rc = M := by omega
  have hN4 : N ≤ 4 := by omega
  have hK6 : K ≤ 6 := by omega
  have hM4 : M ≤ 4 := by omega
  have hM0 : ((M : Int) == 0) = false := by simp; omega
  have hM1 : ¬ M = 0 := by omega
  have ha255 : (a : Int) ≤ 255 := by have := hT.a255; omega
  have hb255 : (b : Int) ≤ 255 := by have := hT.b255; omega
  have hc255 : (c : Int) ≤ 255 := by have := hT.c255; omega
  have hTH := Lib.hid hT
  clear hT hra hrb hrc hN hK hM
  go_enter Try.func46, Try.ntmps46
  have _t := ha255
  go_wp2_with (first
    | (with_reducible show wpList _ _ _ (⟨_, .box 69 _, _, _, _, _⟩ :: _) _ _
       refine wpList_box_blk rfl 69 _ rfl cs rfl ?_
       intro w1 g hG hgr hge
       have hb1 : Below w.heap.size w w1 := below_none (Below.refl _ _) hgr (Nat.le_refl _)
       clear hgr)
    | (with_reducible show wpList _ _ _ (⟨_, .alloc 38, _, _, _, _⟩ :: _) _ _
       clear _t
       refine wpList_alloc_blk rfl 38 rfl _ zero_rul ?_
       intro w2 g4 hR4 hgr2 hge2
       have hb2 : Below w.heap.size w w2 := below_none hb1 hgr2 hb1.size
       have hG2 := hG.none_ hgr2
       clear hgr2)
    | (with_reducible show wpList _ _ _ (⟨_, .alloc 38, _, _, _, _⟩ :: _) _ _
       refine wpList_alloc_blk rfl 38 rfl _ zero_rul ?_
       intro w3 g5 hR5 hgr3 hge3
       have hb3 : Below w.heap.size w w3 := below_none hb2 hgr3 hb2.size
       have hG3 := hG2.none_ hgr3
       have hR43 := hR4.none_ hgr3
       have k0 : w3.cell? ⟨g, 0, none⟩ = some (.int .u8 (a : Int)) := (hG3.cell 0).trans hTH.out.c0
       have k1 : w3.cell? ⟨g, 1, none⟩ = some (.int .u8 (b : Int)) := (hG3.cell 1).trans hTH.out.c1))
  have hg5 : g ≠ g5 := by have := hG2.lt; omega
  have h45 : g4 ≠ g5 := by have := hR4.lt; omega
  have hw5 : w.heap.size ≤ g5 := by have := hb2.size; omega
  have hw4 : w.heap.size ≤ g4 := by have := hb1.size; omega
  have hm0 : MdS w w3.heap.size g g4 g5 cs (.slice none 0 0) [] w3 := ⟨hb3, Nat.le_refl _, hG3.lt, hR43.lt, hR5.lt, hG3, hR43, hR5, OwnS.nil _ _⟩
  clear k0 k1 hG hG2 hG3 hR4 hR43 hR5 hb1 hb2 hb3 hgr3 hge hge2 hge3
  go_loopw [22] (fun v wr => ∃ (i : Nat) (o : Value) (ws : List ByteArray), i ≤ N ∧ v = .int .i64 i ∧ ws.length = i ∧ MadeW ws K ∧ MdS w w3.heap.size g g4 g5 cs o ws wr) (fun v _ => N - (intOf v).toNat)
  case atStart => exact ⟨0, _, [], by omega, rfl, rfl, ⟨(fun t ht => by cases ht), (fun t ht => by cases ht)⟩, hm0⟩
  case round =>
    obtain ⟨i, o, ws, hi, rfl, hwl, hmw, hm⟩ := hrel
    clear hm0
    by_cases hlt : i < N
    · have hlti : (i : Int) < N := by omega
      go_wp2_with (fail)
      go_loopw [8, 26] (fun o8 v wr2 => ∃ (j : Nat) (t : ByteArray), j ≤ K ∧ v = .int .i64 j ∧ o8 = .string t ∧ t.size = j ∧ lettersS (bts t) 4 = true ∧ MdS w w3.heap.size g g4 g5 cs o ws wr2) (fun _ v _ => K - (intOf v).toNat)
      case atStart => exact ⟨0, ⟨#[]⟩, by omega, rfl, rfl, rfl, rfl, hm⟩
      case round =>
        obtain ⟨j, t, hj, rfl, rfl, hts, htl, hm⟩ := hrel
        by_cases hjk : j < K
        · have hjki : (j : Int) < K := by omega
          obtain ⟨d6, hd6⟩ : ∃ d, 6 * i = d := ⟨_, rfl⟩
          obtain ⟨u, hu⟩ : ∃ u, d6 + j = u := ⟨_, rfl⟩
          have i1 : 6 * (i : Int) = d6 := by omega
          have i2 : (d6 : Int) + j = u := by omega
          have hu24 : u < 24 := by omega
          have hu24i : (u : Int) < 24 := by omega
          obtain ⟨y, hy255, hcy⟩ := hTH.out.by_ u hu24
          have hy255i : (y : Int) ≤ 255 := by omega
          obtain ⟨y1, y2⟩ := mod_facts y M
          obtain ⟨ry, hry⟩ : ∃ r, y % M = r := ⟨_, rfl⟩
          have hry4 : ry < M := by rw [← hry]; exact Nat.mod_lt _ (by omega)
          rw [hry] at y1 y2
          have kc : wr.cell? ⟨g, 2, none⟩ = some (.int .u8 (c : Int)) := (hm.bkg.cell 2).trans hTH.out.c2
          have ky : wr.cell? ⟨g, 3 + u, none⟩ = some (.int .u8 (y : Int)) := (hm.bkg.cell (3 + u)).trans hcy
          have hlet := Lib.hid (fun w' => letter_any (k := ry) (by omega) w')
          obtain ⟨yb, hyb⟩ : ∃ y : ByteArray, (⟨#[(97 + ry).toUInt8]⟩ : ByteArray) = y := ⟨_, rfl⟩
          rw [hyb] at hlet
          have htI : (t.size : Int) ≤ 8388608 := by omega
          have hys : (yb.size : Int) ≤ 8388608 := by rw [← hyb]; show ((1 : Nat) : Int) ≤ _; omega
          have hadd : ∀ w', (Op.stringOp .add t yb).run Try.prog w' = .ok (.string (t ++ yb)) w' := fun w' => run_string_add w' t yb htI hys
          have hbt : bts (t ++ yb) = bts t ++ [(97 + ry).toUInt8] := by rw [bts_append, ← hyb]; rfl
          have hN1 := Lib.hid (show (t ++ yb).size = j + 1 by rw [← bts_len, hbt, List.length_append, bts_len, hts]; rfl)
          have hN2 := Lib.hid (show lettersS (bts (t ++ yb)) 4 = true by rw [hbt]; exact letters4_add htl (by omega))
          clear hcy hry hyb hbt htl hts hd6 hu
          go_wp2_with (fail)
          have q1 : IntKind.i64.wrap (d6 : Int) = d6 := IntWalk.i64_in _ (by omega)
          have q2 : IntKind.i64.wrap (u : Int) = u := IntWalk.i64_in _ (by omega)
          have q3 : IntKind.i64.wrap (M : Int) = M := IntWalk.i64_in _ (by omega)
          have q4 : IntKind.i64.wrap (y : Int) = y := IntWalk.i64_in _ (by omega)
          have q5 : IntKind.i64.wrap (c : Int) = c := IntWalk.i64_in _ (by omega)
          go_quiet (first | (go_at_call 42; exact Calls.quiet_of_same (hlet.out _)))
          clear q1 q2 q3 q4 q5 kc ky
          have hmq := hm.drewN nq
          generalize wr.drewN nq = wq at hmq ⊢
          go_wp2_with (fail)
          go_roundw
          case rel => exact ⟨j + 1, t ++ yb, by omega, by go_num, rfl, hN1.out, hN2.out, hmq⟩
          case measure => simp only [intOf]; omega
        · have hjki : ¬ (j : Int) < K := by omega
          have hwlH := Lib.hid hwl
          have hPL : ws.length ≤ 1000000000 := by omega
          have htsH := Lib.hid hts
          have htlH := Lib.hid htl
          have k5 : wr.cell? ⟨g5, 0, none⟩ = some o := hm.bk5.cell 0
          clear hwl hts htl
          go_wp2_with (first
            | (at_builtin
               refine wpList_pushS rfl _ _ rfl rfl (hm.own.none_ (World.grownBy_alloc wr _ none)) wr.heap.size 1 t rfl (Blk.new wr _ _) hPL (by have := hm.bs; show _ ≤ (wr.heap.push _).size; simp; omega) ?_
               intro g6 cap6 w6 ho6 hgr6 _ _
               have b6 := hm.kept hgr6 hm.bk5 hm.l5
               have k6 : w6.cell? ⟨g5, 0, none⟩ = some o := b6.cell 0
               have f6 := b6.frozen 0
               have hm6 := hm.push hw5 hg5 h45 hgr6 ho6))
          go_roundw
          case rel => exact ⟨i + 1, _, ws ++ [t], by omega, by go_num, by simp [hwlH.out], hmw.snoc (by rw [htsH.out]; omega) htlH.out, hm6⟩
          case measure => simp only [intOf]; omega
    · have hlti : ¬ (i : Int) < N := by omega
      have hiN : ws.length = N := by omega
      have hiNH := Lib.hid hiN
      have ho1 : o.oneCell' = true := by
        obtain ⟨A, cp, rfl, _⟩ := hm.own.reads
        rfl
      have hne : o.ownBlock ≠ some g4 := by
        intro e
        have := hm.own.ge e
        have := hm.l4
        omega
      clear hwl hiN
      go_wp2_with (first
        | (with_reducible show wpList _ _ _ (⟨_, .load 38 _, _, _, _, _⟩ :: _) _ _
           refine wpList_load_blk rfl 38 _ rfl g5 rfl 38 _ _ hm.bk5 Try.underlying38 rfl (info_oneP _) ?_)
        | (with_reducible show wpList _ _ _ (⟨_, .store 38 _ _, _, _, _, _⟩ :: _) _ _
           refine wpList_store_blk rfl 38 _ _ rfl g4 #[o] rfl rfl 38 _ hm.bk4 (info_oneP _) rfl (by simp [ho1]) ?_
           intro w7 hB7 hgr7))
      have ho7 := hm.own.some_ hgr7 hne
      have hb7 := below_some hm.be hgr7 hm.be.size hw4
      have hcp : ∀ A cp, o = .slice A ws.length cp → ws.length ≤ cp := by
        intro A cp e
        rcases ho7.2 with ⟨rfl, h0⟩ | ⟨g, cap, cur, rfl, _, _, hc, _⟩
        · injection e; omega
        · injection e; omega
      obtain ⟨A, cp, rfl, hrs⟩ := ho7.reads
      exact bodyPost_ret (results_one rfl _ _ g4 38 _ (0, 0) _ rfl hB7 Try.underlying38 rfl (info_oneP _)) rfl ⟨A, ws.length, cp, ws, K, rfl, hrs, hmw, by rw [hiNH.out]; omega, by rw [hiNH.out]; omega, by omega, by omega, hcp _ _ rfl, hb7⟩
end Go.Proofs.Ytdaaiockkbolbaa
