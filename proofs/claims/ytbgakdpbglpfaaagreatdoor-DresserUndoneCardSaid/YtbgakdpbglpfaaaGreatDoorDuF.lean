/- The lines of a season, walked. -/
import Derived.Test.YtbgakdpbglpfaaaGreatDoorDuE
import Derived.IntWalk
namespace Go.Proofs.YtbgakdpbglpfaaaGreatDoor
open Go.RowKit
namespace Dr
set_option linter.unusedSimpArgs false
section
variable {P : Program} {w : World} {o : Oper} {a : Act} {K : Act → World → Prop} {Q : Exit → Act → World → Prop}
/-- a slice literal of two, of four constants -/
theorem wp_lit2 (ty : TypeId) (et : TypeId) (x y : Operand) (u v : Value) (ho : o.op = .buildSlice ty 2 #[(0, x), (1, y)]) (hx : a.eval x = u) (hy : a.eval y = v)
    (hr : ∀ w : World, (Instr.buildSlice ty 2 #[(0, u), (1, v)]).run P w = .ok (.slice (some ⟨w.heap.size, 0, none⟩) 2 2) (w.alloc (.cells #[u, v] et)))
    (h : ∀ (w' : World) (g : Nat), Blk w' g et #[u, v] → w.grownBy w' none → w.heap.size ≤ g → K (a.put o.dst (.slice (some ⟨g, 0, none⟩) 2 2)) w') : o.wp P a w K Q := by
  have hh := h (w.alloc (.cells #[u, v] et)) w.heap.size (Blk.new _ _ _) (World.grownBy_alloc w _ none) (Nat.le_refl _)
  unfold Oper.wp execOp
  simp only [ho, List.map_toArray, List.map_cons, List.map_nil, hx, hy, Sem.run_bind, hr w, Result.andThen_ok, Sem.run_pure, Oper.upon_value]
  exact hh
theorem wp_lit4 (ty : TypeId) (et : TypeId) (x1 x2 x3 x4 : Operand) (u1 u2 u3 u4 : Value) (ho : o.op = .buildSlice ty 4 #[(0, x1), (1, x2), (2, x3), (3, x4)]) (h1 : a.eval x1 = u1) (h2 : a.eval x2 = u2) (h3 : a.eval x3 = u3) (h4 : a.eval x4 = u4)
    (hr : ∀ w : World, (Instr.buildSlice ty 4 #[(0, u1), (1, u2), (2, u3), (3, u4)]).run P w = .ok (.slice (some ⟨w.heap.size, 0, none⟩) 4 4) (w.alloc (.cells #[u1, u2, u3, u4] et)))
    (h : ∀ (w' : World) (g : Nat), Blk w' g et #[u1, u2, u3, u4] → w.grownBy w' none → w.heap.size ≤ g → K (a.put o.dst (.slice (some ⟨g, 0, none⟩) 4 4)) w') : o.wp P a w K Q := by
  have hh := h (w.alloc (.cells #[u1, u2, u3, u4] et)) w.heap.size (Blk.new _ _ _) (World.grownBy_alloc w _ none) (Nat.le_refl _)
  unfold Oper.wp execOp
  simp only [ho, List.map_toArray, List.map_cons, List.map_nil, h1, h2, h3, h4, Sem.run_bind, hr w, Result.andThen_ok, Sem.run_pure, Oper.upon_value]
  exact hh
end
theorem lit_str2 (s t : ByteArray) (w : World) : (Instr.buildSlice 22 2 #[(0, .string s), (1, .string t)]).run Tryz.prog w = .ok (.slice (some ⟨w.heap.size, 0, none⟩) 2 2) (w.alloc (.cells #[.string s, .string t] 9)) := by
  go_simp
theorem lit_str4 (s t s' t' : ByteArray) (w : World) : (Instr.buildSlice 22 4 #[(0, .string s), (1, .string t), (2, .string s'), (3, .string t')]).run Tryz.prog w = .ok (.slice (some ⟨w.heap.size, 0, none⟩) 4 4) (w.alloc (.cells #[.string s, .string t, .string s', .string t'] 9)) := by
  go_simp
theorem zero_quad (w : World) : (zeroValue 114).run Tryz.prog w = .ok (.agg #[.int .u8 0, .int .u8 0, .int .u8 0, .int .u8 0]) w := Tryz.zeroValue114 w
theorem add_any (x y : ByteArray) (hx : x.size ≤ 10000) (hy : y.size ≤ 10000) (w : World) : (Op.stringOp .add x y).run Tryz.prog w = .ok (.string (x ++ y)) w := run_string_add w x y (by omega) (by omega)
theorem sz_add {x y q : ByteArray} {m : Nat} (e : x ++ y = q) (hx : x.size ≤ m) (hy : y.size ≤ 1000) : q.size ≤ m + 1000 := by
  rw [← e, ByteArray.size_append]
  omega
theorem next_line {qs : List Quad} {i : Nat} {u : Bool} {q : Quad} {ls : List ByteArray} (h : qs[i]? = some q) (hl : firstL ++ (qs.take i).map (lineS u) = ls) : firstL ++ (qs.take (i + 1)).map (lineS u) = ls ++ [lineS u q] := by
  rw [List.take_add_one, h, Option.toList_some, List.map_append, ← List.append_assoc, hl]
  rfl
/-- ways that meet again: what an operation leaves is told once (x holds a block's number that is made on the way) -/
theorem two_ways {K : Act → World → Prop} {S : World → Prop} {G : Prop} (x : Nat → Act) (main : (∀ g w, S w → K (x g) w) → G) (later : ∀ g w, S w → K (x g) w) : G := main later
/-- a line by numbers in its block, the row of lines so far -/
structure Sea (wb w : World) (g : Nat) (x0 x1 x2 x3 : Nat) (v : Value) (ls : List ByteArray) : Prop where
  x : Blk w g 114 #[.int .u8 (x0 : Int), .int .u8 (x1 : Int), .int .u8 (x2 : Int), .int .u8 (x3 : Int)]
  o : OwnS w wb.heap.size v ls
  be : Below wb.heap.size wb w
section
variable {wb w w' : World} {g x0 x1 x2 x3 : Nat} {v : Value} {ls : List ByteArray}
theorem Sea.callee (h : Sea wb w g x0 x1 x2 x3 v ls) (hb : Below w.heap.size w w') : Sea wb w' g x0 x1 x2 x3 v ls :=
  ⟨h.x.callee hb, h.o.callee hb, h.be.trans (hb.mono h.be.size)⟩
theorem Sea.drew (h : Sea wb w g x0 x1 x2 x3 v ls) : Sea wb w.drew g x0 x1 x2 x3 v ls := h.callee (Below.refl _ _).drew
theorem Sea.c0 (h : Sea wb w g x0 x1 x2 x3 v ls) : w.cell? ⟨g, 0, none⟩ = some (.int .u8 (x0 : Int)) := h.x.at_ 0 rfl
theorem Sea.c1 (h : Sea wb w g x0 x1 x2 x3 v ls) : w.cell? ⟨g, 1, none⟩ = some (.int .u8 (x1 : Int)) := h.x.at_ 1 rfl
theorem Sea.c2 (h : Sea wb w g x0 x1 x2 x3 v ls) : w.cell? ⟨g, 2, none⟩ = some (.int .u8 (x2 : Int)) := h.x.at_ 2 rfl
theorem Sea.c3 (h : Sea wb w g x0 x1 x2 x3 v ls) : w.cell? ⟨g, 3, none⟩ = some (.int .u8 (x3 : Int)) := h.x.at_ 3 rfl
set_option maxRecDepth 100000 in
set_option maxHeartbeats 40000000 in
theorem season_any (T : Tabs w) (P : Option Addr) (n c : Nat) (qs : List Quad) (hq : RQuads w w.heap.size P n qs) (hn : n ≤ maxLen) (u : Bool) :
    Calls Tryz.prog 37 #[.slice P n c, .bool u] w fun e w' => ∃ v, e = .returned v ∧ OwnT w' v (seasonL u qs) ∧ (∀ g, blkOf v = some g → w.heap.size ≤ g) ∧ Below w.heap.size w w' := by
  have HT := Lib.hid T
  have HQ := Lib.hid hq
  unfold maxLen at hn
  clear T hq
  go_enter Tryz.func37, Tryz.ntmps37
  go_wp2_with (go_at_call 53; (with_reducible refine (list_same _ _).mono ?_); rintro e w3 ⟨rfl, hw3⟩; replace hw3 := hw3.symm; subst hw3)
  have hO0 : OwnS (w.alloc (.cells (strsV firstL).toArray 9)) w.heap.size (.slice (some ⟨w.heap.size, 0, none⟩) 6 6) firstL := World.ownsRow_lit w (strsV firstL).toArray 6 (Nat.le_refl _) (by decide) rfl
  have hB0 : Below w.heap.size w (w.alloc (.cells (strsV firstL).toArray 9)) := (Below.refl _ _).alloc (Nat.le_refl _) _
  go_loopw [5, 16] (fun o v wr => ∃ i : Nat, i ≤ n ∧ i ≤ 24 ∧ v = .int .i64 i ∧ OwnS wr w.heap.size o (firstL ++ (qs.take i).map (lineS u)) ∧ Below w.heap.size w wr) (fun _ v _ => n - (intOf v).toNat)
  case atStart => exact ⟨0, Nat.zero_le _, Nat.zero_le _, rfl, hO0, hB0⟩
  case round =>
    obtain ⟨i, hi, hi24, rfl, hO, hB⟩ := hrel
    clear hO0 hB0
    by_cases hlt : i < n
    · have hlti : (i : Int) < n := by omega
      have hi0 : (0 : Int) ≤ i := by omega
      obtain ⟨b, o, ⟨x0, x1, x2, x3⟩, rfl, _, hr, ⟨l0, l1, l2, l3⟩, hqi⟩ := (HQ.out.later hB).at_ hlt
      simp only [Quad.vals] at hr
      by_cases h24 : i < 24
      · have h24i : ¬ (24 : Int) ≤ i := by omega
        go_wp2_with (first
          | (with_reducible show wpList _ _ _ (⟨_, .load 114 _, _, _, _, _⟩ :: _) _ _
             refine wpList_load_mid rfl 114 _ rfl b (o + i * 4) rfl _ _ hr Tryz.underlying114 rfl (by kernel_rfl) ?_))
        obtain ⟨w5, hw5⟩ : ∃ q, wr.alloc (.cells #[.int .u8 (x0 : Int), .int .u8 (x1 : Int), .int .u8 (x2 : Int), .int .u8 (x3 : Int)] 114) = q := ⟨_, rfl⟩
        obtain ⟨g5, hg5⟩ : ∃ q, wr.heap.size = q := ⟨_, rfl⟩
        obtain ⟨ls, hls⟩ : ∃ q, firstL ++ (qs.take i).map (lineS u) = q := ⟨_, rfl⟩
        rw [hls] at hO
        have hb5 : Below wr.heap.size wr w5 := by rw [← hw5]; exact (Below.refl _ _).alloc (Nat.le_refl _) _
        have hS : Hid (Sea w w5 g5 x0 x1 x2 x3 u5 ls) := ⟨by rw [← hw5, ← hg5]; exact Blk.new _ _ _, hO.callee hb5, hB.trans (hb5.mono hB.size)⟩
        have HLS := Lib.hid hls
        rw [hw5, hg5]
        clear hw5 hb5 hO hB hr hls
        refine De.region_tree (fun b w' => bif b then (True) else (w'.cell? ⟨g5, 1, none⟩ = some (.int .u8 (x1 : Int)) ∧ True)) 7 4 (by kernel_rfl) (by kernel_rfl) (by decide) ⟨hS.out.c1, trivial⟩ ?_
        (try simp only [Act.put, De.l0, De.l1, De.l2])
        refine De.MidT.read (o := ?o1) (v := ?v1) 1 (by decide) ?q1 (by kernel_rfl) (by kernel_rfl) ?w1 (by kernel_rfl) ?y1 ?h1
        case q1 => (simp only [De.g0, De.g1, De.g2]; rfl)
        case w1 => kernel_rfl
        case y1 => (intro w' hw'; obtain ⟨y1, _⟩ := hw'; go_simp; (try with_reducible rfl))
        (try simp only [Act.put, De.l0, De.l1, De.l2])
        refine De.MidT.read (o := ?o2) (v := ?v2) 2 (by decide) ?q2 (by kernel_rfl) (by kernel_rfl) ?w2 (by kernel_rfl) ?y2 ?h2
        case q2 => (simp only [De.g0, De.g1, De.g2]; rfl)
        case w2 => kernel_rfl
        case y2 => (intro w' hw'; obtain ⟨y1, _⟩ := hw'; go_simp; (try with_reducible rfl))
        (try simp only [Act.put, De.l0, De.l1, De.l2])
        refine De.MidT.read (o := ?o3) (v := ?v3) 5 (by decide) ?q3 (by kernel_rfl) (by kernel_rfl) ?w3 (by kernel_rfl) ?y3 ?h3
        case q3 => (simp only [De.g0, De.g1, De.g2]; rfl)
        case w3 => kernel_rfl
        case y3 => (intro w' hw'; obtain ⟨y1, _⟩ := hw'; go_simp; (try with_reducible rfl))
        (try simp only [Act.put, De.l0, De.l1, De.l2])
        refine De.MidT.read (o := ?o4) (v := ?v4) 6 (by decide) ?q4 (by kernel_rfl) (by kernel_rfl) ?w4 (by kernel_rfl) ?y4 ?h4
        case q4 => (simp only [De.g0, De.g1, De.g2]; rfl)
        case w4 => kernel_rfl
        case y4 => (intro w' hw'; obtain ⟨y1, _⟩ := hw'; go_simp; (try with_reducible rfl))
        (try simp only [Act.put, De.l0, De.l1, De.l2])
        (try refine De.MidT.tail ?_)
        refine De.Tr.one (i := 0) (o := ?o5) (by kernel_rfl) ?q5 ?g5 ?h5
        case q5 => (simp only [De.g0, De.g1, De.g2]; rfl)
        case g5 => rfl
        refine wp_enterK 40 #[] (by go_simp) (drawers_list _) ?_
        rintro e wa ⟨ada, rfl, hra, hba⟩
        have hSa := Lib.hid (hS.out.drew.callee hba)
        refine ⟨_, rfl, ⟨_, rfl⟩, ⟨hSa.out.c1, trivial⟩, ?_⟩
        (try simp only [Act.put, De.l0, De.l1, De.l2])
        (try refine De.MidT.tail ?_)
        refine De.Tr.one (i := 3) (o := ?o6) (by kernel_rfl) ?q6 ?g6 ?h6
        case q6 => (simp only [De.g0, De.g1, De.g2]; rfl)
        case g6 => rfl
        refine wp_enterK 39 #[.slice (some ada) 2 2, .int .u8 (x1 : Int)] (by go_simp) (one_any (some ada) 2 2 drawersL hra (by decide) (by decide) x1 l1) ?_
        rintro e wq ⟨rfl, hw⟩
        replace hw := hw.symm
        subst hw
        refine ⟨_, rfl, ⟨_, rfl⟩, ⟨hSa.out.c1, trivial⟩, ?_⟩
        (try simp only [Act.put, De.l0, De.l1, De.l2])
        (try refine De.MidT.tail ?_)
        refine De.Tr.one (i := 4) (o := ?o7) (by kernel_rfl) ?q7 ?g7 ?h7
        case q7 => (simp only [De.g0, De.g1, De.g2]; rfl)
        case g7 => rfl
        refine wp_enterK 52 #[] (by go_simp) (orders_list _) ?_
        rintro e wb ⟨adb, rfl, hrb, hbb⟩
        have hSb := Lib.hid (hSa.out.callee hbb)
        refine ⟨_, rfl, ⟨_, rfl⟩, ⟨hSb.out.c1, trivial⟩, ?_⟩
        (try simp only [Act.put, De.l0, De.l1, De.l2])
        (try refine De.MidT.tail ?_)
        refine De.Tr.one (i := 7) (o := ?o8) (by kernel_rfl) ?q8 ?g8 ?h8
        case q8 => (simp only [De.g0, De.g1, De.g2]; rfl)
        case g8 => rfl
        refine wp_enterK 39 #[.slice (some adb) 5 5, .int .u8 (x1 : Int)] (by go_simp) (one_any (some adb) 5 5 ordersL hrb (by decide) (by decide) x1 l1) ?_
        rintro e wq ⟨rfl, hw⟩
        replace hw := hw.symm
        subst hw
        refine ⟨_, rfl, ⟨_, rfl⟩, trivial, ?_⟩
        (try simp only [Act.put, De.l0, De.l1, De.l2])
        refine De.MidT.read2 (o := ?o9) (v := ?v9) 8 (by decide) ?q9 (by kernel_rfl) (by kernel_rfl) ?w9 ?y9 ?h9
        case q9 => (simp only [De.g0, De.g1, De.g2]; rfl)
        case w9 => kernel_rfl
        case y9 => (intro b w' hw'; clear hw'; go_simp; (try with_reducible rfl))
        (try simp only [Act.put, De.l0, De.l1, De.l2])
        refine De.MidT.read2 (o := ?o10) (v := ?v10) 9 (by decide) ?q10 (by kernel_rfl) (by kernel_rfl) ?w10 ?y10 ?h10
        case q10 => (simp only [De.g0, De.g1, De.g2]; rfl)
        case w10 => kernel_rfl
        case y10 => (intro b w' hw'; clear hw'; go_simp; (try with_reducible rfl))
        (try simp only [Act.put, De.l0, De.l1, De.l2])
        (try refine De.MidT.tail ?_)
        refine De.Tr.done (by kernel_rfl) ?_
        (try simp only [Act.put, De.l0, De.l1, De.l2])
        obtain ⟨dr, hdr⟩ : ∃ q, oneP drawersL x1 = q := ⟨_, rfl⟩
        obtain ⟨od, hod⟩ : ∃ q, oneP ordersL x1 = q := ⟨_, rfl⟩
        have HDR := Lib.hid hdr
        have HOD := Lib.hid hod
        rw [hdr, hod]
        have hdrz : dr.size ≤ 1000 := by rw [← hdr]; exact one_short (by decide) _
        have hodz : od.size ≤ 1000 := by rw [← hod]; exact one_short (by decide) _
        clear hdr hod hSa hra hba hrb hbb hS
        obtain ⟨j2, hj2⟩ : ∃ q, x2 % 4 = q := ⟨_, rfl⟩
        obtain ⟨j3, hj3⟩ : ∃ q, x3 % 4 = q := ⟨_, rfl⟩
        have e2 : Int.tmod (x2 : Int) 4 = (j2 : Int) := by rw [← hj2]; exact (Int.ofNat_tmod x2 4).symm
        have e3 : Int.tmod (x3 : Int) 4 = (j3 : Int) := by rw [← hj3]; exact (Int.ofNat_tmod x3 4).symm
        have b2 : (j2 : Int) < 4 := by omega
        have b3 : (0 : Int) ≤ j2 := by omega
        obtain ⟨k3, hk3⟩ : ∃ q, 1 + j3 = q := ⟨_, rfl⟩
        have e4 : (1 : Int) + (j3 : Int) = (k3 : Int) := by omega
        have hw3 : IntKind.i64.wrap (k3 : Int) = k3 := IntWalk.i64_in _ (by omega)
        obtain ⟨sz, hsz⟩ : ∃ q, sizesL[j2]? = some q := ⟨_, List.getElem?_eq_getElem (by show j2 < 4; omega)⟩
        have HSZ : Hid (szP ⟨x0, x1, x2, x3⟩ = sz) := by
          rw [Hid, szP, List.getD_eq_getElem?_getD, hj2, hsz]
          rfl
        have hszz : sz.size ≤ 1000 := by
          rw [← HSZ.out, szP, List.getD_eq_getElem?_getD]
          cases hq : sizesL[x2 % 4]? with
          | none => exact Nat.zero_le _
          | some s => exact (show ∀ s ∈ sizesL, s.size ≤ 1000 by decide) s (List.mem_of_getElem? hq)
        obtain ⟨kb, hkb⟩ : ∃ q, kB k3 = q := ⟨_, rfl⟩
        have HKB : Hid (kB (1 + x3 % 4) = kb) := by rw [Hid, hj3, hk3, hkb]
        have HIT : Hid (∀ w', Below w.heap.size w w' → Calls Tryz.prog 44 #[.int .i64 (k3 : Int)] w' fun e w'' => e = .returned (.string kb) ∧ Below w'.heap.size w' w'') := fun w' hb => by
          rw [← hkb]
          exact itoa_any k3 (by omega) (HT.out.below hb).2
        have hkbz : kb.size ≤ 1000 := by
          rw [← hkb, kB, ← byts_len, byts_bstr]
          exact Nat.le_trans (dec_len k3 (by omega)) (by decide)
        clear hj2 hj3 hk3 hkb
        have hszi : (strsV sizesL).toArray[j2]? = some (.string sz) := by rw [List.getElem?_toArray, strsV, List.getElem?_map, hsz]; rfl
        have HSI := Lib.hid hszi
        clear hsz hszi
        go_wp2_with (fail)
        rename_i K7 a7
        have hwx : IntKind.i64.wrap (x3 : Int) = x3 := IntWalk.i64_in _ (by omega)
        have m2 : (0 : Int) ≤ x2 := by omega
        have m3 : (0 : Int) ≤ x3 := by omega
        have m2' : (x2 : Int) < 256 := by omega
        have m3' : (x3 : Int) < 256 := by omega
        apply two_ways (K := K7) (S := fun w6 => Sea w w6 g5 x0 x1 x2 x3 u5 ls)
        case main =>
          intro hk7
          refine De.region_tree (fun b w' => bif b then (w'.cell? ⟨g5, 2, none⟩ = some (.int .u8 (x2 : Int)) ∧ w'.cell? ⟨g5, 3, none⟩ = some (.int .u8 (x3 : Int))) else (w'.cell? ⟨g5, 2, none⟩ = some (.int .u8 (x2 : Int)) ∧ w'.cell? ⟨g5, 3, none⟩ = some (.int .u8 (x3 : Int)))) 12 4 (by kernel_rfl) (by kernel_rfl) (by decide) ⟨hSb.out.c2, hSb.out.c3⟩ ?_
          (try simp only [Act.put, De.l0, De.l1, De.l2])
          refine De.MidT.read2 (o := ?o11) (v := ?v11) 2 (by decide) ?q11 (by kernel_rfl) (by kernel_rfl) ?w11 ?y11 ?h11
          case q11 => (simp only [De.g0, De.g1, De.g2]; rfl)
          case w11 => kernel_rfl
          case y11 => (intro b w' hw'; cases b <;> (obtain ⟨y1, y2⟩ := hw'; go_simp; (try with_reducible rfl)))
          (try simp only [Act.put, De.l0, De.l1, De.l2])
          refine De.MidT.read2 (o := ?o12) (v := ?v12) 3 (by decide) ?q12 (by kernel_rfl) (by kernel_rfl) ?w12 ?y12 ?h12
          case q12 => (simp only [De.g0, De.g1, De.g2]; rfl)
          case w12 => kernel_rfl
          case y12 => (intro b w' hw'; cases b <;> (obtain ⟨y1, y2⟩ := hw'; go_simp; (try with_reducible rfl)))
          (try simp only [Act.put, De.l0, De.l1, De.l2])
          refine De.MidT.read2 (o := ?o13) (v := ?v13) 4 (by decide) ?q13 (by kernel_rfl) (by kernel_rfl) ?w13 ?y13 ?h13
          case q13 => (simp only [De.g0, De.g1, De.g2]; rfl)
          case w13 => kernel_rfl
          case y13 => (intro b w' hw'; cases b <;> (obtain ⟨y1, y2⟩ := hw'; go_simp; (try with_reducible rfl)))
          (try simp only [Act.put, De.l0, De.l1, De.l2])
          refine De.MidT.read2 (o := ?o14) (v := ?v14) 7 (by decide) ?q14 (by kernel_rfl) (by kernel_rfl) ?w14 ?y14 ?h14
          case q14 => (simp only [De.g0, De.g1, De.g2]; rfl)
          case w14 => kernel_rfl
          case y14 => (intro b w' hw'; cases b <;> (obtain ⟨y1, y2⟩ := hw'; go_simp; (try with_reducible rfl)))
          (try simp only [Act.put, De.l0, De.l1, De.l2])
          refine De.MidT.read2 (o := ?o15) (v := ?v15) 8 (by decide) ?q15 (by kernel_rfl) (by kernel_rfl) ?w15 ?y15 ?h15
          case q15 => (simp only [De.g0, De.g1, De.g2]; rfl)
          case w15 => kernel_rfl
          case y15 => (intro b w' hw'; cases b <;> (obtain ⟨y1, y2⟩ := hw'; go_simp; (try with_reducible rfl)))
          (try simp only [Act.put, De.l0, De.l1, De.l2])
          refine De.MidT.read2 (o := ?o16) (v := ?v16) 9 (by decide) ?q16 (by kernel_rfl) (by kernel_rfl) ?w16 ?y16 ?h16
          case q16 => (simp only [De.g0, De.g1, De.g2]; rfl)
          case w16 => kernel_rfl
          case y16 => (intro b w' hw'; cases b <;> (obtain ⟨y1, y2⟩ := hw'; go_simp; (try with_reducible rfl)))
          (try simp only [Act.put, De.l0, De.l1, De.l2])
          refine De.MidT.read2 (o := ?o17) (v := ?v17) 10 (by decide) ?q17 (by kernel_rfl) (by kernel_rfl) ?w17 ?y17 ?h17
          case q17 => (simp only [De.g0, De.g1, De.g2]; rfl)
          case w17 => kernel_rfl
          case y17 => (intro b w' hw'; cases b <;> (obtain ⟨y1, y2⟩ := hw'; go_simp; (try with_reducible rfl)))
          (try simp only [Act.put, De.l0, De.l1, De.l2])
          refine De.MidT.read2 (o := ?o18) (v := ?v18) 11 (by decide) ?q18 (by kernel_rfl) (by kernel_rfl) ?w18 ?y18 ?h18
          case q18 => (simp only [De.g0, De.g1, De.g2]; rfl)
          case w18 => kernel_rfl
          case y18 => (intro b w' hw'; cases b <;> (obtain ⟨y1, y2⟩ := hw'; go_simp; (try with_reducible rfl)))
          (try simp only [Act.put, De.l0, De.l1, De.l2])
          (try refine De.MidT.tail ?_)
          refine De.Tr.one (i := 0) (o := ?o19) (by kernel_rfl) ?q19 ?g19 ?h19
          case q19 => (simp only [De.g0, De.g1, De.g2]; rfl)
          case g19 => rfl
          refine wp_lit4 22 9 _ _ _ _ (.string ⟨#[50]⟩) (.string ⟨#[51]⟩) (.string ⟨#[53]⟩) (.string ⟨#[55]⟩) rfl rfl rfl rfl rfl (lit_str4 _ _ _ _) ?_
          intro w6 g6 hG6 hgr6 hge6
          have hS6 := Lib.hid (hSb.out.drew.callee (below_grown hgr6))
          refine ⟨⟨_, rfl⟩, ⟨hS6.out.c2, hS6.out.c3⟩, ?_⟩
          (try simp only [Act.put, De.l0, De.l1, De.l2])
          (try refine De.MidT.tail ?_)
          refine De.Tr.one (i := 1) (o := ?o20) (by kernel_rfl) ?q20 ?g20 ?h20
          case q20 => (simp only [De.g0, De.g1, De.g2]; rfl)
          case g20 => rfl
          refine wp_enterK 53 #[.slice (some ⟨g6, 0, none⟩) 4 4] (by go_simp) (list_same _ _) ?_
          rintro e wq ⟨rfl, hw⟩
          replace hw := hw.symm
          subst hw
          refine ⟨_, rfl, ⟨_, rfl⟩, ⟨hS6.out.c2, hS6.out.c3⟩, ?_⟩
          (try simp only [Act.put, De.l0, De.l1, De.l2])
          refine De.MidT.read2 (o := ?o21) (v := ?v21) 5 (by decide) ?q21 (by kernel_rfl) (by kernel_rfl) ?w21 ?y21 ?h21
          case q21 => (simp only [De.g0, De.g1, De.g2]; rfl)
          case w21 => kernel_rfl
          case y21 => (intro b w' hw'; cases b <;> (obtain ⟨y1, y2⟩ := hw'; go_simp; (try with_reducible rfl)))
          (try simp only [Act.put, De.l0, De.l1, De.l2])
          have cz6 : w6.cell? ⟨g6, j2, none⟩ = some (.string sz) := hG6.at_ j2 HSI.out
          (try simp only [Act.put, De.l0, De.l1, De.l2])
          (try refine De.MidT.tail ?_)
          refine De.Tr.two (i := 6) (j := 12) (o := ?o23) (p := ?o22) (by kernel_rfl) ?q23 ?g23 ?q22 ?g22 ?h23 ?h22
          case q23 => (simp only [De.g0, De.g1, De.g2]; rfl)
          case g23 => rfl
          case q22 => (simp only [De.g0, De.g1, De.g2]; rfl)
          case g22 => rfl
          · refine De.wp_pure ?va ?ya ?ka
            case ya => (go_simp; (try with_reducible rfl))
            refine ⟨⟨_, rfl⟩, ⟨hS6.out.c2, hS6.out.c3⟩, ?_⟩
            (try simp only [Act.put, De.l0, De.l1, De.l2])
            (try refine De.MidT.tail ?_)
            refine De.Tr.one (i := 12) (o := ?o24) (by kernel_rfl) ?q24 ?g24 ?h24
            case q24 => (simp only [De.g0, De.g1, De.g2]; rfl)
            case g24 => rfl
            refine wp_enterK 44 #[.int .i64 (k3 : Int)] (by go_simp) (HIT.out _ hS6.out.be) ?_
            rintro e w7 ⟨rfl, hb7⟩
            have hS7 := Lib.hid (hS6.out.callee hb7)
            refine ⟨_, rfl, ⟨_, rfl⟩, ⟨hS7.out.c2, hS7.out.c3⟩, ?_⟩
            (try simp only [Act.put, De.l0, De.l1, De.l2])
            refine De.MidT.read2 (o := ?o25) (v := ?v25) 13 (by decide) ?q25 (by kernel_rfl) (by kernel_rfl) ?w25 ?y25 ?h25
            case q25 => (simp only [De.g0, De.g1, De.g2]; rfl)
            case w25 => kernel_rfl
            case y25 => (intro b w' hw'; clear hw'; go_simp; (try with_reducible rfl))
            (try simp only [Act.put, De.l0, De.l1, De.l2])
            refine De.MidT.read2 (o := ?o26) (v := ?v26) 14 (by decide) ?q26 (by kernel_rfl) (by kernel_rfl) ?w26 ?y26 ?h26
            case q26 => (simp only [De.g0, De.g1, De.g2]; rfl)
            case w26 => kernel_rfl
            case y26 => (intro b w' hw'; clear hw'; go_simp; (try with_reducible rfl))
            (try simp only [Act.put, De.l0, De.l1, De.l2])
            (try refine De.MidT.tail ?_)
            refine De.Tr.done (by kernel_rfl) ?_
            (try simp only [Act.put, De.l0, De.l1, De.l2])
            exact hk7 g6 _ hS7.out
          · refine wp_enterK 44 #[.int .i64 (k3 : Int)] (by go_simp) (HIT.out _ hS6.out.be) ?_
            rintro e w7 ⟨rfl, hb7⟩
            have hS7 := Lib.hid (hS6.out.callee hb7)
            have cz7 : w7.cell? ⟨g6, j2, none⟩ = some (.string sz) := (hG6.callee hb7).at_ j2 HSI.out
            refine ⟨_, rfl, ⟨_, rfl⟩, ⟨hS7.out.c2, hS7.out.c3⟩, ?_⟩
            (try simp only [Act.put, De.l0, De.l1, De.l2])
            (try refine De.MidT.tail ?_)
            refine De.Tr.one (i := 6) (o := ?o27) (by kernel_rfl) ?q27 ?g27 ?h27
            case q27 => (simp only [De.g0, De.g1, De.g2]; rfl)
            case g27 => rfl
            refine De.wp_pure ?vb ?yb ?kb
            case yb => (go_simp; (try with_reducible rfl))
            refine ⟨⟨_, rfl⟩, ⟨hS7.out.c2, hS7.out.c3⟩, ?_⟩
            (try simp only [Act.put, De.l0, De.l1, De.l2])
            refine De.MidT.read2 (o := ?o28) (v := ?v28) 13 (by decide) ?q28 (by kernel_rfl) (by kernel_rfl) ?w28 ?y28 ?h28
            case q28 => (simp only [De.g0, De.g1, De.g2]; rfl)
            case w28 => kernel_rfl
            case y28 => (intro b w' hw'; clear hw'; go_simp; (try with_reducible rfl))
            (try simp only [Act.put, De.l0, De.l1, De.l2])
            refine De.MidT.read2 (o := ?o29) (v := ?v29) 14 (by decide) ?q29 (by kernel_rfl) (by kernel_rfl) ?w29 ?y29 ?h29
            case q29 => (simp only [De.g0, De.g1, De.g2]; rfl)
            case w29 => kernel_rfl
            case y29 => (intro b w' hw'; clear hw'; go_simp; (try with_reducible rfl))
            (try simp only [Act.put, De.l0, De.l1, De.l2])
            (try refine De.MidT.tail ?_)
            refine De.Tr.done (by kernel_rfl) ?_
            (try simp only [Act.put, De.l0, De.l1, De.l2])
            exact hk7 g6 _ hS7.out
        case later =>
          intro g6 w7 hS7'
          have hS := Lib.hid hS7'
          have HLN : Hid (ls.length ≤ 30) := by
            rw [Hid, ← HLS.out, List.length_append, List.length_map, List.length_take]
            have : firstL.length = 6 := rfl
            omega
          have c0 := hS.out.c0
          obtain ⟨r, hr⟩ : ∃ r, x0 % 16 = r := ⟨_, rfl⟩
          have hr16 : r < 16 := by omega
          have m0 : (0 : Int) ≤ x0 := by omega
          have m0' : (x0 : Int) < 256 := by omega
          clear hS7' hSb
          refine a7 _ _ ?_
          clear a7
          rcases (by omega : r = 0 ∨ (r = 1 ∨ r = 2 ∨ r = 3) ∨ (r = 4 ∨ r = 5 ∨ r = 6 ∨ r = 7 ∨ r = 8) ∨ (r = 9 ∨ r = 10) ∨ r = 11 ∨ r = 12 ∨ r = 13 ∨ r = 14 ∨ r = 15) with hg | hg | hg | hg | hg | hg | hg | hg | hg
          · -- [0]
            as_aux_lemma =>
              subst hg
              have er := hr
              have ei := (Int.ofNat_tmod x0 16).symm
              rw [hr] at ei
              simp only [Int.cast_ofNat_Int] at ei
              obtain ⟨s1, s1e⟩ : ∃ q, (⟨#[115, 105, 122, 101, 32]⟩ : ByteArray) ++ dr = q := ⟨_, rfl⟩
              have s1a : ∀ w', (Op.stringOp .add ⟨#[115, 105, 122, 101, 32]⟩ dr).run Tryz.prog w' = .ok (.string s1) w' := fun w' => by rw [← s1e]; exact add_any _ _ (Nat.le_trans (show (⟨#[115, 105, 122, 101, 32]⟩ : ByteArray).size ≤ 1000 by decide) (by decide)) (Nat.le_trans hdrz (by decide)) w'
              have hs1z : s1.size ≤ 1000 + 1000 := sz_add s1e (m := 1000) (show (⟨#[115, 105, 122, 101, 32]⟩ : ByteArray).size ≤ 1000 by decide) hdrz
              obtain ⟨s2, s2e⟩ : ∃ q, s1 ++ (⟨#[32]⟩ : ByteArray) = q := ⟨_, rfl⟩
              have s2a : ∀ w', (Op.stringOp .add s1 ⟨#[32]⟩).run Tryz.prog w' = .ok (.string s2) w' := fun w' => by rw [← s2e]; exact add_any _ _ (Nat.le_trans hs1z (by decide)) (Nat.le_trans (show (⟨#[32]⟩ : ByteArray).size ≤ 1000 by decide) (by decide)) w'
              have hs2z : s2.size ≤ 2000 + 1000 := sz_add s2e (m := 2000) hs1z (show (⟨#[32]⟩ : ByteArray).size ≤ 1000 by decide)
              obtain ⟨s3, s3e⟩ : ∃ q, s2 ++ sz = q := ⟨_, rfl⟩
              have s3a : ∀ w', (Op.stringOp .add s2 sz).run Tryz.prog w' = .ok (.string s3) w' := fun w' => by rw [← s3e]; exact add_any _ _ (Nat.le_trans hs2z (by decide)) (Nat.le_trans hszz (by decide)) w'
              have hs3z : s3.size ≤ 3000 + 1000 := sz_add s3e (m := 3000) hs2z hszz
              have hNX : Hid (firstL ++ (qs.take (i + 1)).map (lineS u) = ls ++ [s3]) := by
                rw [Hid, next_line hqi.out HLS.out]
                congr 2
                unfold lineS
                simp only []
                rw [if_pos (by omega)]
                rw [show drP ⟨x0, x1, x2, x3⟩ = dr from HDR.out, show szP ⟨x0, x1, x2, x3⟩ = sz from HSZ.out]
                rw [← s3e, ← s2e, ← s1e]
                rfl
              clear er hr s1e s2e s3e
              go_wp2_with (first
              | (with_reducible show wpList _ _ _ (⟨_, .buildSlice 22 _ _, _, _, _, _⟩ :: _) _ _
                 refine wpList_lit1 rfl 22 9 _ (.string s3) rfl rfl (lit_str s3) ?_
                 intro w8 g8 hG8 hgr8 hge8
                 have hS8 := Lib.hid (hS.out.callee (below_grown hgr8)))
              | (at_builtin
                 refine wpList_pushS rfl _ _ rfl rfl hS8.out.o g8 1 s3 rfl hG8 (Nat.le_trans HLN.out (by decide)) hS8.out.be.size ?_
                 intro g9 cap9 w9 hO9 hgr9 hat9 hlt9
                 have hB9 := Lib.hid (hS8.out.be.grown hgr9 hS8.out.be.size (fun g hg => hS8.out.o.ge hg))))
              go_roundw
              case rel => exact ⟨i + 1, by omega, by omega, by go_num, by rw [hNX.out]; simpa [OwnS] using hO9, hB9.out⟩
              case measure => simp only [intOf]; omega
          · -- [1, 2, 3]
            as_aux_lemma =>
              rcases hg with rfl | rfl | rfl <;> (
                have er := hr
                have ei := (Int.ofNat_tmod x0 16).symm
                rw [hr] at ei
                simp only [Int.cast_ofNat_Int] at ei
                obtain ⟨s1, s1e⟩ : ∃ q, (⟨#[98, 117, 121, 32]⟩ : ByteArray) ++ dr = q := ⟨_, rfl⟩
                have s1a : ∀ w', (Op.stringOp .add ⟨#[98, 117, 121, 32]⟩ dr).run Tryz.prog w' = .ok (.string s1) w' := fun w' => by rw [← s1e]; exact add_any _ _ (Nat.le_trans (show (⟨#[98, 117, 121, 32]⟩ : ByteArray).size ≤ 1000 by decide) (by decide)) (Nat.le_trans hdrz (by decide)) w'
                have hs1z : s1.size ≤ 1000 + 1000 := sz_add s1e (m := 1000) (show (⟨#[98, 117, 121, 32]⟩ : ByteArray).size ≤ 1000 by decide) hdrz
                obtain ⟨s2, s2e⟩ : ∃ q, s1 ++ (⟨#[32]⟩ : ByteArray) = q := ⟨_, rfl⟩
                have s2a : ∀ w', (Op.stringOp .add s1 ⟨#[32]⟩).run Tryz.prog w' = .ok (.string s2) w' := fun w' => by rw [← s2e]; exact add_any _ _ (Nat.le_trans hs1z (by decide)) (Nat.le_trans (show (⟨#[32]⟩ : ByteArray).size ≤ 1000 by decide) (by decide)) w'
                have hs2z : s2.size ≤ 2000 + 1000 := sz_add s2e (m := 2000) hs1z (show (⟨#[32]⟩ : ByteArray).size ≤ 1000 by decide)
                obtain ⟨s3, s3e⟩ : ∃ q, s2 ++ sz = q := ⟨_, rfl⟩
                have s3a : ∀ w', (Op.stringOp .add s2 sz).run Tryz.prog w' = .ok (.string s3) w' := fun w' => by rw [← s3e]; exact add_any _ _ (Nat.le_trans hs2z (by decide)) (Nat.le_trans hszz (by decide)) w'
                have hs3z : s3.size ≤ 3000 + 1000 := sz_add s3e (m := 3000) hs2z hszz
                obtain ⟨s4, s4e⟩ : ∃ q, s3 ++ (⟨#[32]⟩ : ByteArray) = q := ⟨_, rfl⟩
                have s4a : ∀ w', (Op.stringOp .add s3 ⟨#[32]⟩).run Tryz.prog w' = .ok (.string s4) w' := fun w' => by rw [← s4e]; exact add_any _ _ (Nat.le_trans hs3z (by decide)) (Nat.le_trans (show (⟨#[32]⟩ : ByteArray).size ≤ 1000 by decide) (by decide)) w'
                have hs4z : s4.size ≤ 4000 + 1000 := sz_add s4e (m := 4000) hs3z (show (⟨#[32]⟩ : ByteArray).size ≤ 1000 by decide)
                obtain ⟨s5, s5e⟩ : ∃ q, s4 ++ kb = q := ⟨_, rfl⟩
                have s5a : ∀ w', (Op.stringOp .add s4 kb).run Tryz.prog w' = .ok (.string s5) w' := fun w' => by rw [← s5e]; exact add_any _ _ (Nat.le_trans hs4z (by decide)) (Nat.le_trans hkbz (by decide)) w'
                have hs5z : s5.size ≤ 5000 + 1000 := sz_add s5e (m := 5000) hs4z hkbz
                have hNX : Hid (firstL ++ (qs.take (i + 1)).map (lineS u) = ls ++ [s5]) := by
                  rw [Hid, next_line hqi.out HLS.out]
                  congr 2
                  unfold lineS
                  simp only []
                  rw [if_neg (by omega), if_pos (by omega)]
                  rw [show drP ⟨x0, x1, x2, x3⟩ = dr from HDR.out, show szP ⟨x0, x1, x2, x3⟩ = sz from HSZ.out, HKB.out]
                  rw [← s5e, ← s4e, ← s3e, ← s2e, ← s1e]
                  rfl
                clear er hr s1e s2e s3e s4e s5e
                go_wp2_with (first
              | (with_reducible show wpList _ _ _ (⟨_, .buildSlice 22 _ _, _, _, _, _⟩ :: _) _ _
                 refine wpList_lit1 rfl 22 9 _ (.string s5) rfl rfl (lit_str s5) ?_
                 intro w8 g8 hG8 hgr8 hge8
                 have hS8 := Lib.hid (hS.out.callee (below_grown hgr8)))
              | (at_builtin
                 refine wpList_pushS rfl _ _ rfl rfl hS8.out.o g8 1 s5 rfl hG8 (Nat.le_trans HLN.out (by decide)) hS8.out.be.size ?_
                 intro g9 cap9 w9 hO9 hgr9 hat9 hlt9
                 have hB9 := Lib.hid (hS8.out.be.grown hgr9 hS8.out.be.size (fun g hg => hS8.out.o.ge hg))))
                go_roundw
                case rel => exact ⟨i + 1, by omega, by omega, by go_num, by rw [hNX.out]; simpa [OwnS] using hO9, hB9.out⟩
                case measure => simp only [intOf]; omega)
          · -- [4, 5, 6, 7, 8]
            rcases hg with rfl | rfl | rfl | rfl | rfl
            · as_aux_lemma =>
                have er := hr
                have ei := (Int.ofNat_tmod x0 16).symm
                rw [hr] at ei
                simp only [Int.cast_ofNat_Int] at ei
                obtain ⟨j24, hj24⟩ : ∃ q, x3 % 24 = q := ⟨_, rfl⟩
                have e24 : Int.tmod (x3 : Int) 24 = (j24 : Int) := by rw [← hj24]; exact (Int.ofNat_tmod x3 24).symm
                obtain ⟨k24, hk24⟩ : ∃ q, 1 + j24 = q := ⟨_, rfl⟩
                have e25 : (1 : Int) + (j24 : Int) = (k24 : Int) := by omega
                have hw25 : IntKind.i64.wrap (k24 : Int) = k24 := IntWalk.i64_in _ (by omega)
                obtain ⟨h2, hh2⟩ : ∃ q, x2 / 2 = q := ⟨_, rfl⟩
                have l22 : h2 < 256 := by omega
                have e22 : Int.tdiv (x2 : Int) 2 = (h2 : Int) := by rw [← hh2]; exact (Int.ofNat_tdiv x2 2).symm
                have hw22 : IntKind.u8.wrap (h2 : Int) = h2 := by simp [IntKind.wrap, IntKind.signed, IntKind.bits]; omega
                obtain ⟨kq, hkq⟩ : ∃ q, kB k24 = q := ⟨_, rfl⟩
                have HKQ : Hid (kB (1 + x3 % 24) = kq) := by rw [Hid, hj24, hk24, hkq]
                have HIQ : Hid (∀ w', Below w.heap.size w w' → Calls Tryz.prog 44 #[.int .i64 (k24 : Int)] w' fun e w'' => e = .returned (.string kq) ∧ Below w'.heap.size w' w'') := fun w' hb => by
                  rw [← hkq]
                  exact itoa_any k24 (by omega) (HT.out.below hb).2
                have hkqz : kq.size ≤ 1000 := by
                  rw [← hkq, kB, ← byts_len, byts_bstr]
                  exact Nat.le_trans (dec_len k24 (by omega)) (by decide)
                obtain ⟨d4, hd4⟩ : ∃ q, oneP drawersL h2 = q := ⟨_, rfl⟩
                have HD4 : Hid (oneP drawersL (x2 / 2) = d4) := by rw [Hid, hh2, hd4]
                have HO4 := Lib.hid hd4
                have hd4z : d4.size ≤ 1000 := by rw [← hd4]; exact one_short (by decide) _
                clear hj24 hk24 hkq hh2 hd4 e3 e4 hw3
                obtain ⟨s1, s1e⟩ : ∃ q, (⟨#[111, 114, 100, 101, 114, 32]⟩ : ByteArray) ++ od = q := ⟨_, rfl⟩
                have s1a : ∀ w', (Op.stringOp .add ⟨#[111, 114, 100, 101, 114, 32]⟩ od).run Tryz.prog w' = .ok (.string s1) w' := fun w' => by rw [← s1e]; exact add_any _ _ (Nat.le_trans (show (⟨#[111, 114, 100, 101, 114, 32]⟩ : ByteArray).size ≤ 1000 by decide) (by decide)) (Nat.le_trans hodz (by decide)) w'
                have hs1z : s1.size ≤ 1000 + 1000 := sz_add s1e (m := 1000) (show (⟨#[111, 114, 100, 101, 114, 32]⟩ : ByteArray).size ≤ 1000 by decide) hodz
                obtain ⟨s2, s2e⟩ : ∃ q, s1 ++ (⟨#[32]⟩ : ByteArray) = q := ⟨_, rfl⟩
                have s2a : ∀ w', (Op.stringOp .add s1 ⟨#[32]⟩).run Tryz.prog w' = .ok (.string s2) w' := fun w' => by rw [← s2e]; exact add_any _ _ (Nat.le_trans hs1z (by decide)) (Nat.le_trans (show (⟨#[32]⟩ : ByteArray).size ≤ 1000 by decide) (by decide)) w'
                have hs2z : s2.size ≤ 2000 + 1000 := sz_add s2e (m := 2000) hs1z (show (⟨#[32]⟩ : ByteArray).size ≤ 1000 by decide)
                obtain ⟨s3, s3e⟩ : ∃ q, s2 ++ d4 = q := ⟨_, rfl⟩
                have s3a : ∀ w', (Op.stringOp .add s2 d4).run Tryz.prog w' = .ok (.string s3) w' := fun w' => by rw [← s3e]; exact add_any _ _ (Nat.le_trans hs2z (by decide)) (Nat.le_trans hd4z (by decide)) w'
                have hs3z : s3.size ≤ 3000 + 1000 := sz_add s3e (m := 3000) hs2z hd4z
                obtain ⟨s4, s4e⟩ : ∃ q, s3 ++ (⟨#[32]⟩ : ByteArray) = q := ⟨_, rfl⟩
                have s4a : ∀ w', (Op.stringOp .add s3 ⟨#[32]⟩).run Tryz.prog w' = .ok (.string s4) w' := fun w' => by rw [← s4e]; exact add_any _ _ (Nat.le_trans hs3z (by decide)) (Nat.le_trans (show (⟨#[32]⟩ : ByteArray).size ≤ 1000 by decide) (by decide)) w'
                have hs4z : s4.size ≤ 4000 + 1000 := sz_add s4e (m := 4000) hs3z (show (⟨#[32]⟩ : ByteArray).size ≤ 1000 by decide)
                obtain ⟨s5, s5e⟩ : ∃ q, s4 ++ kq = q := ⟨_, rfl⟩
                have s5a : ∀ w', (Op.stringOp .add s4 kq).run Tryz.prog w' = .ok (.string s5) w' := fun w' => by rw [← s5e]; exact add_any _ _ (Nat.le_trans hs4z (by decide)) (Nat.le_trans hkqz (by decide)) w'
                have hs5z : s5.size ≤ 5000 + 1000 := sz_add s5e (m := 5000) hs4z hkqz
                have hNX : Hid (firstL ++ (qs.take (i + 1)).map (lineS u) = ls ++ [s5]) := by
                  rw [Hid, next_line hqi.out HLS.out]
                  congr 2
                  unfold lineS
                  simp only []
                  rw [if_neg (by omega), if_neg (by omega), if_pos (by omega)]
                  rw [show orP ⟨x0, x1, x2, x3⟩ = od from HOD.out, HD4.out, HKQ.out]
                  rw [← s5e, ← s4e, ← s3e, ← s2e, ← s1e]
                  rfl
                clear er hr s1e s2e s3e s4e s5e
                go_wp2_with (fail)
                refine De.region_tree (fun b w' => bif b then (True) else (w'.cell? ⟨g5, 2, none⟩ = some (.int .u8 (x2 : Int)) ∧ w'.cell? ⟨g5, 3, none⟩ = some (.int .u8 (x3 : Int)))) 19 5 (by kernel_rfl) (by kernel_rfl) (by decide) ⟨hS.out.c2, hS.out.c3⟩ ?_
                (try simp only [Act.put, De.l0, De.l1, De.l2])
                refine De.MidT.read (o := ?o30) (v := ?v30) 0 (by decide) ?q30 (by kernel_rfl) (by kernel_rfl) ?w30 (by kernel_rfl) ?y30 ?h30
                case q30 => (simp only [De.g0, De.g1, De.g2]; rfl)
                case w30 => kernel_rfl
                case y30 => (intro w' hw'; obtain ⟨y1, y2⟩ := hw'; go_simp; (try with_reducible rfl))
                (try simp only [Act.put, De.l0, De.l1, De.l2])
                refine De.MidT.read (o := ?o31) (v := ?v31) 1 (by decide) ?q31 (by kernel_rfl) (by kernel_rfl) ?w31 (by kernel_rfl) ?y31 ?h31
                case q31 => (simp only [De.g0, De.g1, De.g2]; rfl)
                case w31 => kernel_rfl
                case y31 => (intro w' hw'; obtain ⟨y1, y2⟩ := hw'; go_simp; (try with_reducible rfl))
                (try simp only [Act.put, De.l0, De.l1, De.l2])
                refine De.MidT.read (o := ?o32) (v := ?v32) 2 (by decide) ?q32 (by kernel_rfl) (by kernel_rfl) ?w32 (by kernel_rfl) ?y32 ?h32
                case q32 => (simp only [De.g0, De.g1, De.g2]; rfl)
                case w32 => kernel_rfl
                case y32 => (intro w' hw'; obtain ⟨y1, y2⟩ := hw'; go_simp; (try with_reducible rfl))
                (try simp only [Act.put, De.l0, De.l1, De.l2])
                refine De.MidT.read (o := ?o33) (v := ?v33) 3 (by decide) ?q33 (by kernel_rfl) (by kernel_rfl) ?w33 (by kernel_rfl) ?y33 ?h33
                case q33 => (simp only [De.g0, De.g1, De.g2]; rfl)
                case w33 => kernel_rfl
                case y33 => (intro w' hw'; obtain ⟨y1, y2⟩ := hw'; go_simp; (try with_reducible rfl))
                (try simp only [Act.put, De.l0, De.l1, De.l2])
                refine De.MidT.read (o := ?o34) (v := ?v34) 5 (by decide) ?q34 (by kernel_rfl) (by kernel_rfl) ?w34 (by kernel_rfl) ?y34 ?h34
                case q34 => (simp only [De.g0, De.g1, De.g2]; rfl)
                case w34 => kernel_rfl
                case y34 => (intro w' hw'; obtain ⟨y1, y2⟩ := hw'; go_simp; (try with_reducible rfl))
                (try simp only [Act.put, De.l0, De.l1, De.l2])
                refine De.MidT.read (o := ?o35) (v := ?v35) 6 (by decide) ?q35 (by kernel_rfl) (by kernel_rfl) ?w35 (by kernel_rfl) ?y35 ?h35
                case q35 => (simp only [De.g0, De.g1, De.g2]; rfl)
                case w35 => kernel_rfl
                case y35 => (intro w' hw'; obtain ⟨y1, y2⟩ := hw'; go_simp; (try with_reducible rfl))
                (try simp only [Act.put, De.l0, De.l1, De.l2])
                refine De.MidT.read (o := ?o36) (v := ?v36) 7 (by decide) ?q36 (by kernel_rfl) (by kernel_rfl) ?w36 (by kernel_rfl) ?y36 ?h36
                case q36 => (simp only [De.g0, De.g1, De.g2]; rfl)
                case w36 => kernel_rfl
                case y36 => (intro w' hw'; obtain ⟨y1, y2⟩ := hw'; go_simp; (try with_reducible rfl))
                (try simp only [Act.put, De.l0, De.l1, De.l2])
                refine De.MidT.read (o := ?o37) (v := ?v37) 11 (by decide) ?q37 (by kernel_rfl) (by kernel_rfl) ?w37 (by kernel_rfl) ?y37 ?h37
                case q37 => (simp only [De.g0, De.g1, De.g2]; rfl)
                case w37 => kernel_rfl
                case y37 => (intro w' hw'; obtain ⟨y1, y2⟩ := hw'; go_simp; (try with_reducible rfl))
                (try simp only [Act.put, De.l0, De.l1, De.l2])
                refine De.MidT.read (o := ?o38) (v := ?v38) 12 (by decide) ?q38 (by kernel_rfl) (by kernel_rfl) ?w38 (by kernel_rfl) ?y38 ?h38
                case q38 => (simp only [De.g0, De.g1, De.g2]; rfl)
                case w38 => kernel_rfl
                case y38 => (intro w' hw'; obtain ⟨y1, y2⟩ := hw'; go_simp; (try with_reducible rfl))
                (try simp only [Act.put, De.l0, De.l1, De.l2])
                refine De.MidT.read (o := ?o39) (v := ?v39) 13 (by decide) ?q39 (by kernel_rfl) (by kernel_rfl) ?w39 (by kernel_rfl) ?y39 ?h39
                case q39 => (simp only [De.g0, De.g1, De.g2]; rfl)
                case w39 => kernel_rfl
                case y39 => (intro w' hw'; obtain ⟨y1, y2⟩ := hw'; go_simp; (try with_reducible rfl))
                (try simp only [Act.put, De.l0, De.l1, De.l2])
                refine De.MidT.read (o := ?o40) (v := ?v40) 14 (by decide) ?q40 (by kernel_rfl) (by kernel_rfl) ?w40 (by kernel_rfl) ?y40 ?h40
                case q40 => (simp only [De.g0, De.g1, De.g2]; rfl)
                case w40 => kernel_rfl
                case y40 => (intro w' hw'; obtain ⟨y1, y2⟩ := hw'; go_simp; (try with_reducible rfl))
                (try simp only [Act.put, De.l0, De.l1, De.l2])
                refine De.MidT.read (o := ?o41) (v := ?v41) 15 (by decide) ?q41 (by kernel_rfl) (by kernel_rfl) ?w41 (by kernel_rfl) ?y41 ?h41
                case q41 => (simp only [De.g0, De.g1, De.g2]; rfl)
                case w41 => kernel_rfl
                case y41 => (intro w' hw'; obtain ⟨y1, y2⟩ := hw'; go_simp; (try with_reducible rfl))
                (try simp only [Act.put, De.l0, De.l1, De.l2])
                (try refine De.MidT.tail ?_)
                refine De.Tr.one (i := 4) (o := ?o42) (by kernel_rfl) ?q42 ?g42 ?h42
                case q42 => (simp only [De.g0, De.g1, De.g2]; rfl)
                case g42 => rfl
                refine wp_enterK 40 #[] (by go_simp) (drawers_list _) ?_
                rintro e wa ⟨adq, rfl, hra, hba⟩
                have hSa := Lib.hid (hS.out.drew.callee hba)
                refine ⟨_, rfl, ⟨_, rfl⟩, ⟨hSa.out.c2, hSa.out.c3⟩, ?_⟩
                (try simp only [Act.put, De.l0, De.l1, De.l2])
                (try refine De.MidT.tail ?_)
                refine De.Tr.one (i := 8) (o := ?o43) (by kernel_rfl) ?q43 ?g43 ?h43
                case q43 => (simp only [De.g0, De.g1, De.g2]; rfl)
                case g43 => rfl
                refine wp_enterK 39 #[.slice (some adq) 2 2, .int .u8 (h2 : Int)] (by go_simp) (one_any (some adq) 2 2 drawersL hra (by decide) (by decide) h2 l22) ?_
                rintro e wq ⟨rfl, hw⟩
                replace hw := hw.symm
                subst hw
                rw [HO4.out]
                refine ⟨_, rfl, ⟨_, rfl⟩, ⟨hSa.out.c2, hSa.out.c3⟩, ?_⟩
                (try simp only [Act.put, De.l0, De.l1, De.l2])
                refine De.MidT.read (o := ?o44) (v := ?v44) 9 (by decide) ?q44 (by kernel_rfl) (by kernel_rfl) ?w44 (by kernel_rfl) ?y44 ?h44
                case q44 => (simp only [De.g0, De.g1, De.g2]; rfl)
                case w44 => kernel_rfl
                case y44 => (intro w' hw'; obtain ⟨y1, y2⟩ := hw'; go_simp; (try with_reducible rfl))
                (try simp only [Act.put, De.l0, De.l1, De.l2])
                refine De.MidT.read (o := ?o45) (v := ?v45) 10 (by decide) ?q45 (by kernel_rfl) (by kernel_rfl) ?w45 (by kernel_rfl) ?y45 ?h45
                case q45 => (simp only [De.g0, De.g1, De.g2]; rfl)
                case w45 => kernel_rfl
                case y45 => (intro w' hw'; obtain ⟨y1, y2⟩ := hw'; go_simp; (try with_reducible rfl))
                (try simp only [Act.put, De.l0, De.l1, De.l2])
                (try refine De.MidT.tail ?_)
                refine De.Tr.one (i := 16) (o := ?o46) (by kernel_rfl) ?q46 ?g46 ?h46
                case q46 => (simp only [De.g0, De.g1, De.g2]; rfl)
                case g46 => rfl
                refine wp_enterK 44 #[.int .i64 (k24 : Int)] (by go_simp) (HIQ.out _ hSa.out.be) ?_
                rintro e wi ⟨rfl, hbi⟩
                have hSi := Lib.hid (hSa.out.callee hbi)
                refine ⟨_, rfl, ⟨_, rfl⟩, ⟨hSi.out.c2, hSi.out.c3⟩, ?_⟩
                (try simp only [Act.put, De.l0, De.l1, De.l2])
                refine De.MidT.read (o := ?o47) (v := ?v47) 17 (by decide) ?q47 (by kernel_rfl) (by kernel_rfl) ?w47 (by kernel_rfl) ?y47 ?h47
                case q47 => (simp only [De.g0, De.g1, De.g2]; rfl)
                case w47 => kernel_rfl
                case y47 => (intro w' hw'; obtain ⟨y1, y2⟩ := hw'; go_simp; (try with_reducible rfl))
                (try simp only [Act.put, De.l0, De.l1, De.l2])
                (try refine De.MidT.tail ?_)
                refine De.Tr.one (i := 18) (o := ?o48) (by kernel_rfl) ?q48 ?g48 ?h48
                case q48 => (simp only [De.g0, De.g1, De.g2]; rfl)
                case g48 => rfl
                refine wp_lit1 22 9 _ (.string s5) rfl rfl (lit_str s5) ?_
                intro w8 g8 hG8 hgr8 hge8
                have hS8 := Lib.hid (hSi.out.callee (below_grown hgr8))
                refine ⟨⟨_, rfl⟩, ⟨hS8.out.c2, hS8.out.c3⟩, ?_⟩
                (try simp only [Act.put, De.l0, De.l1, De.l2])
                (try refine De.MidT.tail ?_)
                refine De.Tr.one (i := 19) (o := ?o49) (by kernel_rfl) ?q49 ?g49 ?h49
                case q49 => (simp only [De.g0, De.g1, De.g2]; rfl)
                case g49 => rfl
                refine wp_pushS _ _ rfl rfl hS8.out.o g8 1 s5 rfl hG8 (Nat.le_trans HLN.out (by decide)) hS8.out.be.size ?_
                intro g9 cap9 w9 hO9 hgr9 hat9 hlt9
                have hB9 := Lib.hid (hS8.out.be.grown hgr9 hS8.out.be.size (fun g hg => hS8.out.o.ge hg))
                refine ⟨⟨_, rfl⟩, trivial, ?_⟩
                (try simp only [Act.put, De.l0, De.l1, De.l2])
                refine De.MidT.read2 (o := ?o50) (v := ?v50) 20 (by decide) ?q50 (by kernel_rfl) (by kernel_rfl) ?w50 ?y50 ?h50
                case q50 => (simp only [De.g0, De.g1, De.g2]; rfl)
                case w50 => kernel_rfl
                case y50 => (intro b w' hw'; clear hw'; go_simp; (try with_reducible rfl))
                (try simp only [Act.put, De.l0, De.l1, De.l2])
                (try refine De.MidT.tail ?_)
                refine De.Tr.done (by kernel_rfl) ?_
                (try simp only [Act.put, De.l0, De.l1, De.l2])
                go_wp2_with (fail)
                go_roundw
                case rel => exact ⟨i + 1, by omega, by omega, by go_num, by rw [hNX.out]; simpa [OwnS] using hO9, hB9.out⟩
                case measure => simp only [intOf]; omega
            · as_aux_lemma =>
                have er := hr
                have ei := (Int.ofNat_tmod x0 16).symm
                rw [hr] at ei
                simp only [Int.cast_ofNat_Int] at ei
                obtain ⟨j24, hj24⟩ : ∃ q, x3 % 24 = q := ⟨_, rfl⟩
                have e24 : Int.tmod (x3 : Int) 24 = (j24 : Int) := by rw [← hj24]; exact (Int.ofNat_tmod x3 24).symm
                obtain ⟨k24, hk24⟩ : ∃ q, 1 + j24 = q := ⟨_, rfl⟩
                have e25 : (1 : Int) + (j24 : Int) = (k24 : Int) := by omega
                have hw25 : IntKind.i64.wrap (k24 : Int) = k24 := IntWalk.i64_in _ (by omega)
                obtain ⟨h2, hh2⟩ : ∃ q, x2 / 2 = q := ⟨_, rfl⟩
                have l22 : h2 < 256 := by omega
                have e22 : Int.tdiv (x2 : Int) 2 = (h2 : Int) := by rw [← hh2]; exact (Int.ofNat_tdiv x2 2).symm
                have hw22 : IntKind.u8.wrap (h2 : Int) = h2 := by simp [IntKind.wrap, IntKind.signed, IntKind.bits]; omega
                obtain ⟨kq, hkq⟩ : ∃ q, kB k24 = q := ⟨_, rfl⟩
                have HKQ : Hid (kB (1 + x3 % 24) = kq) := by rw [Hid, hj24, hk24, hkq]
                have HIQ : Hid (∀ w', Below w.heap.size w w' → Calls Tryz.prog 44 #[.int .i64 (k24 : Int)] w' fun e w'' => e = .returned (.string kq) ∧ Below w'.heap.size w' w'') := fun w' hb => by
                  rw [← hkq]
                  exact itoa_any k24 (by omega) (HT.out.below hb).2
                have hkqz : kq.size ≤ 1000 := by
                  rw [← hkq, kB, ← byts_len, byts_bstr]
                  exact Nat.le_trans (dec_len k24 (by omega)) (by decide)
                obtain ⟨d4, hd4⟩ : ∃ q, oneP drawersL h2 = q := ⟨_, rfl⟩
                have HD4 : Hid (oneP drawersL (x2 / 2) = d4) := by rw [Hid, hh2, hd4]
                have HO4 := Lib.hid hd4
                have hd4z : d4.size ≤ 1000 := by rw [← hd4]; exact one_short (by decide) _
                clear hj24 hk24 hkq hh2 hd4 e3 e4 hw3
                obtain ⟨s1, s1e⟩ : ∃ q, (⟨#[111, 114, 100, 101, 114, 32]⟩ : ByteArray) ++ od = q := ⟨_, rfl⟩
                have s1a : ∀ w', (Op.stringOp .add ⟨#[111, 114, 100, 101, 114, 32]⟩ od).run Tryz.prog w' = .ok (.string s1) w' := fun w' => by rw [← s1e]; exact add_any _ _ (Nat.le_trans (show (⟨#[111, 114, 100, 101, 114, 32]⟩ : ByteArray).size ≤ 1000 by decide) (by decide)) (Nat.le_trans hodz (by decide)) w'
                have hs1z : s1.size ≤ 1000 + 1000 := sz_add s1e (m := 1000) (show (⟨#[111, 114, 100, 101, 114, 32]⟩ : ByteArray).size ≤ 1000 by decide) hodz
                obtain ⟨s2, s2e⟩ : ∃ q, s1 ++ (⟨#[32]⟩ : ByteArray) = q := ⟨_, rfl⟩
                have s2a : ∀ w', (Op.stringOp .add s1 ⟨#[32]⟩).run Tryz.prog w' = .ok (.string s2) w' := fun w' => by rw [← s2e]; exact add_any _ _ (Nat.le_trans hs1z (by decide)) (Nat.le_trans (show (⟨#[32]⟩ : ByteArray).size ≤ 1000 by decide) (by decide)) w'
                have hs2z : s2.size ≤ 2000 + 1000 := sz_add s2e (m := 2000) hs1z (show (⟨#[32]⟩ : ByteArray).size ≤ 1000 by decide)
                obtain ⟨s3, s3e⟩ : ∃ q, s2 ++ d4 = q := ⟨_, rfl⟩
                have s3a : ∀ w', (Op.stringOp .add s2 d4).run Tryz.prog w' = .ok (.string s3) w' := fun w' => by rw [← s3e]; exact add_any _ _ (Nat.le_trans hs2z (by decide)) (Nat.le_trans hd4z (by decide)) w'
                have hs3z : s3.size ≤ 3000 + 1000 := sz_add s3e (m := 3000) hs2z hd4z
                obtain ⟨s4, s4e⟩ : ∃ q, s3 ++ (⟨#[32]⟩ : ByteArray) = q := ⟨_, rfl⟩
                have s4a : ∀ w', (Op.stringOp .add s3 ⟨#[32]⟩).run Tryz.prog w' = .ok (.string s4) w' := fun w' => by rw [← s4e]; exact add_any _ _ (Nat.le_trans hs3z (by decide)) (Nat.le_trans (show (⟨#[32]⟩ : ByteArray).size ≤ 1000 by decide) (by decide)) w'
                have hs4z : s4.size ≤ 4000 + 1000 := sz_add s4e (m := 4000) hs3z (show (⟨#[32]⟩ : ByteArray).size ≤ 1000 by decide)
                obtain ⟨s5, s5e⟩ : ∃ q, s4 ++ kq = q := ⟨_, rfl⟩
                have s5a : ∀ w', (Op.stringOp .add s4 kq).run Tryz.prog w' = .ok (.string s5) w' := fun w' => by rw [← s5e]; exact add_any _ _ (Nat.le_trans hs4z (by decide)) (Nat.le_trans hkqz (by decide)) w'
                have hs5z : s5.size ≤ 5000 + 1000 := sz_add s5e (m := 5000) hs4z hkqz
                have hNX : Hid (firstL ++ (qs.take (i + 1)).map (lineS u) = ls ++ [s5]) := by
                  rw [Hid, next_line hqi.out HLS.out]
                  congr 2
                  unfold lineS
                  simp only []
                  rw [if_neg (by omega), if_neg (by omega), if_pos (by omega)]
                  rw [show orP ⟨x0, x1, x2, x3⟩ = od from HOD.out, HD4.out, HKQ.out]
                  rw [← s5e, ← s4e, ← s3e, ← s2e, ← s1e]
                  rfl
                clear er hr s1e s2e s3e s4e s5e
                go_wp2_with (fail)
                refine De.region_tree (fun b w' => bif b then (True) else (w'.cell? ⟨g5, 2, none⟩ = some (.int .u8 (x2 : Int)) ∧ w'.cell? ⟨g5, 3, none⟩ = some (.int .u8 (x3 : Int)))) 19 5 (by kernel_rfl) (by kernel_rfl) (by decide) ⟨hS.out.c2, hS.out.c3⟩ ?_
                (try simp only [Act.put, De.l0, De.l1, De.l2])
                refine De.MidT.read (o := ?o51) (v := ?v51) 0 (by decide) ?q51 (by kernel_rfl) (by kernel_rfl) ?w51 (by kernel_rfl) ?y51 ?h51
                case q51 => (simp only [De.g0, De.g1, De.g2]; rfl)
                case w51 => kernel_rfl
                case y51 => (intro w' hw'; obtain ⟨y1, y2⟩ := hw'; go_simp; (try with_reducible rfl))
                (try simp only [Act.put, De.l0, De.l1, De.l2])
                refine De.MidT.read (o := ?o52) (v := ?v52) 1 (by decide) ?q52 (by kernel_rfl) (by kernel_rfl) ?w52 (by kernel_rfl) ?y52 ?h52
                case q52 => (simp only [De.g0, De.g1, De.g2]; rfl)
                case w52 => kernel_rfl
                case y52 => (intro w' hw'; obtain ⟨y1, y2⟩ := hw'; go_simp; (try with_reducible rfl))
                (try simp only [Act.put, De.l0, De.l1, De.l2])
                refine De.MidT.read (o := ?o53) (v := ?v53) 2 (by decide) ?q53 (by kernel_rfl) (by kernel_rfl) ?w53 (by kernel_rfl) ?y53 ?h53
                case q53 => (simp only [De.g0, De.g1, De.g2]; rfl)
                case w53 => kernel_rfl
                case y53 => (intro w' hw'; obtain ⟨y1, y2⟩ := hw'; go_simp; (try with_reducible rfl))
                (try simp only [Act.put, De.l0, De.l1, De.l2])
                refine De.MidT.read (o := ?o54) (v := ?v54) 3 (by decide) ?q54 (by kernel_rfl) (by kernel_rfl) ?w54 (by kernel_rfl) ?y54 ?h54
                case q54 => (simp only [De.g0, De.g1, De.g2]; rfl)
                case w54 => kernel_rfl
                case y54 => (intro w' hw'; obtain ⟨y1, y2⟩ := hw'; go_simp; (try with_reducible rfl))
                (try simp only [Act.put, De.l0, De.l1, De.l2])
                refine De.MidT.read (o := ?o55) (v := ?v55) 5 (by decide) ?q55 (by kernel_rfl) (by kernel_rfl) ?w55 (by kernel_rfl) ?y55 ?h55
                case q55 => (simp only [De.g0, De.g1, De.g2]; rfl)
                case w55 => kernel_rfl
                case y55 => (intro w' hw'; obtain ⟨y1, y2⟩ := hw'; go_simp; (try with_reducible rfl))
                (try simp only [Act.put, De.l0, De.l1, De.l2])
                refine De.MidT.read (o := ?o56) (v := ?v56) 6 (by decide) ?q56 (by kernel_rfl) (by kernel_rfl) ?w56 (by kernel_rfl) ?y56 ?h56
                case q56 => (simp only [De.g0, De.g1, De.g2]; rfl)
                case w56 => kernel_rfl
                case y56 => (intro w' hw'; obtain ⟨y1, y2⟩ := hw'; go_simp; (try with_reducible rfl))
                (try simp only [Act.put, De.l0, De.l1, De.l2])
                refine De.MidT.read (o := ?o57) (v := ?v57) 7 (by decide) ?q57 (by kernel_rfl) (by kernel_rfl) ?w57 (by kernel_rfl) ?y57 ?h57
                case q57 => (simp only [De.g0, De.g1, De.g2]; rfl)
                case w57 => kernel_rfl
                case y57 => (intro w' hw'; obtain ⟨y1, y2⟩ := hw'; go_simp; (try with_reducible rfl))
                (try simp only [Act.put, De.l0, De.l1, De.l2])
                refine De.MidT.read (o := ?o58) (v := ?v58) 11 (by decide) ?q58 (by kernel_rfl) (by kernel_rfl) ?w58 (by kernel_rfl) ?y58 ?h58
                case q58 => (simp only [De.g0, De.g1, De.g2]; rfl)
                case w58 => kernel_rfl
                case y58 => (intro w' hw'; obtain ⟨y1, y2⟩ := hw'; go_simp; (try with_reducible rfl))
                (try simp only [Act.put, De.l0, De.l1, De.l2])
                refine De.MidT.read (o := ?o59) (v := ?v59) 12 (by decide) ?q59 (by kernel_rfl) (by kernel_rfl) ?w59 (by kernel_rfl) ?y59 ?h59
                case q59 => (simp only [De.g0, De.g1, De.g2]; rfl)
                case w59 => kernel_rfl
                case y59 => (intro w' hw'; obtain ⟨y1, y2⟩ := hw'; go_simp; (try with_reducible rfl))
                (try simp only [Act.put, De.l0, De.l1, De.l2])
                refine De.MidT.read (o := ?o60) (v := ?v60) 13 (by decide) ?q60 (by kernel_rfl) (by kernel_rfl) ?w60 (by kernel_rfl) ?y60 ?h60
                case q60 => (simp only [De.g0, De.g1, De.g2]; rfl)
                case w60 => kernel_rfl
                case y60 => (intro w' hw'; obtain ⟨y1, y2⟩ := hw'; go_simp; (try with_reducible rfl))
                (try simp only [Act.put, De.l0, De.l1, De.l2])
                refine De.MidT.read (o := ?o61) (v := ?v61) 14 (by decide) ?q61 (by kernel_rfl) (by kernel_rfl) ?w61 (by kernel_rfl) ?y61 ?h61
                case q61 => (simp only [De.g0, De.g1, De.g2]; rfl)
                case w61 => kernel_rfl
                case y61 => (intro w' hw'; obtain ⟨y1, y2⟩ := hw'; go_simp; (try with_reducible rfl))
                (try simp only [Act.put, De.l0, De.l1, De.l2])
                refine De.MidT.read (o := ?o62) (v := ?v62) 15 (by decide) ?q62 (by kernel_rfl) (by kernel_rfl) ?w62 (by kernel_rfl) ?y62 ?h62
                case q62 => (simp only [De.g0, De.g1, De.g2]; rfl)
                case w62 => kernel_rfl
                case y62 => (intro w' hw'; obtain ⟨y1, y2⟩ := hw'; go_simp; (try with_reducible rfl))
                (try simp only [Act.put, De.l0, De.l1, De.l2])
                (try refine De.MidT.tail ?_)
                refine De.Tr.one (i := 4) (o := ?o63) (by kernel_rfl) ?q63 ?g63 ?h63
                case q63 => (simp only [De.g0, De.g1, De.g2]; rfl)
                case g63 => rfl
                refine wp_enterK 40 #[] (by go_simp) (drawers_list _) ?_
                rintro e wa ⟨adq, rfl, hra, hba⟩
                have hSa := Lib.hid (hS.out.drew.callee hba)
                refine ⟨_, rfl, ⟨_, rfl⟩, ⟨hSa.out.c2, hSa.out.c3⟩, ?_⟩
                (try simp only [Act.put, De.l0, De.l1, De.l2])
                (try refine De.MidT.tail ?_)
                refine De.Tr.one (i := 8) (o := ?o64) (by kernel_rfl) ?q64 ?g64 ?h64
                case q64 => (simp only [De.g0, De.g1, De.g2]; rfl)
                case g64 => rfl
                refine wp_enterK 39 #[.slice (some adq) 2 2, .int .u8 (h2 : Int)] (by go_simp) (one_any (some adq) 2 2 drawersL hra (by decide) (by decide) h2 l22) ?_
                rintro e wq ⟨rfl, hw⟩
                replace hw := hw.symm
                subst hw
                rw [HO4.out]
                refine ⟨_, rfl, ⟨_, rfl⟩, ⟨hSa.out.c2, hSa.out.c3⟩, ?_⟩
                (try simp only [Act.put, De.l0, De.l1, De.l2])
                refine De.MidT.read (o := ?o65) (v := ?v65) 9 (by decide) ?q65 (by kernel_rfl) (by kernel_rfl) ?w65 (by kernel_rfl) ?y65 ?h65
                case q65 => (simp only [De.g0, De.g1, De.g2]; rfl)
                case w65 => kernel_rfl
                case y65 => (intro w' hw'; obtain ⟨y1, y2⟩ := hw'; go_simp; (try with_reducible rfl))
                (try simp only [Act.put, De.l0, De.l1, De.l2])
                refine De.MidT.read (o := ?o66) (v := ?v66) 10 (by decide) ?q66 (by kernel_rfl) (by kernel_rfl) ?w66 (by kernel_rfl) ?y66 ?h66
                case q66 => (simp only [De.g0, De.g1, De.g2]; rfl)
                case w66 => kernel_rfl
                case y66 => (intro w' hw'; obtain ⟨y1, y2⟩ := hw'; go_simp; (try with_reducible rfl))
                (try simp only [Act.put, De.l0, De.l1, De.l2])
                (try refine De.MidT.tail ?_)
                refine De.Tr.one (i := 16) (o := ?o67) (by kernel_rfl) ?q67 ?g67 ?h67
                case q67 => (simp only [De.g0, De.g1, De.g2]; rfl)
                case g67 => rfl
                refine wp_enterK 44 #[.int .i64 (k24 : Int)] (by go_simp) (HIQ.out _ hSa.out.be) ?_
                rintro e wi ⟨rfl, hbi⟩
                have hSi := Lib.hid (hSa.out.callee hbi)
                refine ⟨_, rfl, ⟨_, rfl⟩, ⟨hSi.out.c2, hSi.out.c3⟩, ?_⟩
                (try simp only [Act.put, De.l0, De.l1, De.l2])
                refine De.MidT.read (o := ?o68) (v := ?v68) 17 (by decide) ?q68 (by kernel_rfl) (by kernel_rfl) ?w68 (by kernel_rfl) ?y68 ?h68
                case q68 => (simp only [De.g0, De.g1, De.g2]; rfl)
                case w68 => kernel_rfl
                case y68 => (intro w' hw'; obtain ⟨y1, y2⟩ := hw'; go_simp; (try with_reducible rfl))
                (try simp only [Act.put, De.l0, De.l1, De.l2])
                (try refine De.MidT.tail ?_)
                refine De.Tr.one (i := 18) (o := ?o69) (by kernel_rfl) ?q69 ?g69 ?h69
                case q69 => (simp only [De.g0, De.g1, De.g2]; rfl)
                case g69 => rfl
                refine wp_lit1 22 9 _ (.string s5) rfl rfl (lit_str s5) ?_
                intro w8 g8 hG8 hgr8 hge8
                have hS8 := Lib.hid (hSi.out.callee (below_grown hgr8))
                refine ⟨⟨_, rfl⟩, ⟨hS8.out.c2, hS8.out.c3⟩, ?_⟩
                (try simp only [Act.put, De.l0, De.l1, De.l2])
                (try refine De.MidT.tail ?_)
                refine De.Tr.one (i := 19) (o := ?o70) (by kernel_rfl) ?q70 ?g70 ?h70
                case q70 => (simp only [De.g0, De.g1, De.g2]; rfl)
                case g70 => rfl
                refine wp_pushS _ _ rfl rfl hS8.out.o g8 1 s5 rfl hG8 (Nat.le_trans HLN.out (by decide)) hS8.out.be.size ?_
                intro g9 cap9 w9 hO9 hgr9 hat9 hlt9
                have hB9 := Lib.hid (hS8.out.be.grown hgr9 hS8.out.be.size (fun g hg => hS8.out.o.ge hg))
                refine ⟨⟨_, rfl⟩, trivial, ?_⟩
                (try simp only [Act.put, De.l0, De.l1, De.l2])
                refine De.MidT.read2 (o := ?o71) (v := ?v71) 20 (by decide) ?q71 (by kernel_rfl) (by kernel_rfl) ?w71 ?y71 ?h71
                case q71 => (simp only [De.g0, De.g1, De.g2]; rfl)
                case w71 => kernel_rfl
                case y71 => (intro b w' hw'; clear hw'; go_simp; (try with_reducible rfl))
                (try simp only [Act.put, De.l0, De.l1, De.l2])
                (try refine De.MidT.tail ?_)
                refine De.Tr.done (by kernel_rfl) ?_
                (try simp only [Act.put, De.l0, De.l1, De.l2])
                go_wp2_with (fail)
                go_roundw
                case rel => exact ⟨i + 1, by omega, by omega, by go_num, by rw [hNX.out]; simpa [OwnS] using hO9, hB9.out⟩
                case measure => simp only [intOf]; omega
            · as_aux_lemma =>
                have er := hr
                have ei := (Int.ofNat_tmod x0 16).symm
                rw [hr] at ei
                simp only [Int.cast_ofNat_Int] at ei
                obtain ⟨j24, hj24⟩ : ∃ q, x3 % 24 = q := ⟨_, rfl⟩
                have e24 : Int.tmod (x3 : Int) 24 = (j24 : Int) := by rw [← hj24]; exact (Int.ofNat_tmod x3 24).symm
                obtain ⟨k24, hk24⟩ : ∃ q, 1 + j24 = q := ⟨_, rfl⟩
                have e25 : (1 : Int) + (j24 : Int) = (k24 : Int) := by omega
                have hw25 : IntKind.i64.wrap (k24 : Int) = k24 := IntWalk.i64_in _ (by omega)
                obtain ⟨h2, hh2⟩ : ∃ q, x2 / 2 = q := ⟨_, rfl⟩
                have l22 : h2 < 256 := by omega
                have e22 : Int.tdiv (x2 : Int) 2 = (h2 : Int) := by rw [← hh2]; exact (Int.ofNat_tdiv x2 2).symm
                have hw22 : IntKind.u8.wrap (h2 : Int) = h2 := by simp [IntKind.wrap, IntKind.signed, IntKind.bits]; omega
                obtain ⟨kq, hkq⟩ : ∃ q, kB k24 = q := ⟨_, rfl⟩
                have HKQ : Hid (kB (1 + x3 % 24) = kq) := by rw [Hid, hj24, hk24, hkq]
                have HIQ : Hid (∀ w', Below w.heap.size w w' → Calls Tryz.prog 44 #[.int .i64 (k24 : Int)] w' fun e w'' => e = .returned (.string kq) ∧ Below w'.heap.size w' w'') := fun w' hb => by
                  rw [← hkq]
                  exact itoa_any k24 (by omega) (HT.out.below hb).2
                have hkqz : kq.size ≤ 1000 := by
                  rw [← hkq, kB, ← byts_len, byts_bstr]
                  exact Nat.le_trans (dec_len k24 (by omega)) (by decide)
                obtain ⟨d4, hd4⟩ : ∃ q, oneP drawersL h2 = q := ⟨_, rfl⟩
                have HD4 : Hid (oneP drawersL (x2 / 2) = d4) := by rw [Hid, hh2, hd4]
                have HO4 := Lib.hid hd4
                have hd4z : d4.size ≤ 1000 := by rw [← hd4]; exact one_short (by decide) _
                clear hj24 hk24 hkq hh2 hd4 e3 e4 hw3
                obtain ⟨s1, s1e⟩ : ∃ q, (⟨#[111, 114, 100, 101, 114, 32]⟩ : ByteArray) ++ od = q := ⟨_, rfl⟩
                have s1a : ∀ w', (Op.stringOp .add ⟨#[111, 114, 100, 101, 114, 32]⟩ od).run Tryz.prog w' = .ok (.string s1) w' := fun w' => by rw [← s1e]; exact add_any _ _ (Nat.le_trans (show (⟨#[111, 114, 100, 101, 114, 32]⟩ : ByteArray).size ≤ 1000 by decide) (by decide)) (Nat.le_trans hodz (by decide)) w'
                have hs1z : s1.size ≤ 1000 + 1000 := sz_add s1e (m := 1000) (show (⟨#[111, 114, 100, 101, 114, 32]⟩ : ByteArray).size ≤ 1000 by decide) hodz
                obtain ⟨s2, s2e⟩ : ∃ q, s1 ++ (⟨#[32]⟩ : ByteArray) = q := ⟨_, rfl⟩
                have s2a : ∀ w', (Op.stringOp .add s1 ⟨#[32]⟩).run Tryz.prog w' = .ok (.string s2) w' := fun w' => by rw [← s2e]; exact add_any _ _ (Nat.le_trans hs1z (by decide)) (Nat.le_trans (show (⟨#[32]⟩ : ByteArray).size ≤ 1000 by decide) (by decide)) w'
                have hs2z : s2.size ≤ 2000 + 1000 := sz_add s2e (m := 2000) hs1z (show (⟨#[32]⟩ : ByteArray).size ≤ 1000 by decide)
                obtain ⟨s3, s3e⟩ : ∃ q, s2 ++ d4 = q := ⟨_, rfl⟩
                have s3a : ∀ w', (Op.stringOp .add s2 d4).run Tryz.prog w' = .ok (.string s3) w' := fun w' => by rw [← s3e]; exact add_any _ _ (Nat.le_trans hs2z (by decide)) (Nat.le_trans hd4z (by decide)) w'
                have hs3z : s3.size ≤ 3000 + 1000 := sz_add s3e (m := 3000) hs2z hd4z
                obtain ⟨s4, s4e⟩ : ∃ q, s3 ++ (⟨#[32]⟩ : ByteArray) = q := ⟨_, rfl⟩
                have s4a : ∀ w', (Op.stringOp .add s3 ⟨#[32]⟩).run Tryz.prog w' = .ok (.string s4) w' := fun w' => by rw [← s4e]; exact add_any _ _ (Nat.le_trans hs3z (by decide)) (Nat.le_trans (show (⟨#[32]⟩ : ByteArray).size ≤ 1000 by decide) (by decide)) w'
                have hs4z : s4.size ≤ 4000 + 1000 := sz_add s4e (m := 4000) hs3z (show (⟨#[32]⟩ : ByteArray).size ≤ 1000 by decide)
                obtain ⟨s5, s5e⟩ : ∃ q, s4 ++ kq = q := ⟨_, rfl⟩
                have s5a : ∀ w', (Op.stringOp .add s4 kq).run Tryz.prog w' = .ok (.string s5) w' := fun w' => by rw [← s5e]; exact add_any _ _ (Nat.le_trans hs4z (by decide)) (Nat.le_trans hkqz (by decide)) w'
                have hs5z : s5.size ≤ 5000 + 1000 := sz_add s5e (m := 5000) hs4z hkqz
                have hNX : Hid (firstL ++ (qs.take (i + 1)).map (lineS u) = ls ++ [s5]) := by
                  rw [Hid, next_line hqi.out HLS.out]
                  congr 2
                  unfold lineS
                  simp only []
                  rw [if_neg (by omega), if_neg (by omega), if_pos (by omega)]
                  rw [show orP ⟨x0, x1, x2, x3⟩ = od from HOD.out, HD4.out, HKQ.out]
                  rw [← s5e, ← s4e, ← s3e, ← s2e, ← s1e]
                  rfl
                clear er hr s1e s2e s3e s4e s5e
                go_wp2_with (fail)
                refine De.region_tree (fun b w' => bif b then (True) else (w'.cell? ⟨g5, 2, none⟩ = some (.int .u8 (x2 : Int)) ∧ w'.cell? ⟨g5, 3, none⟩ = some (.int .u8 (x3 : Int)))) 19 5 (by kernel_rfl) (by kernel_rfl) (by decide) ⟨hS.out.c2, hS.out.c3⟩ ?_
                (try simp only [Act.put, De.l0, De.l1, De.l2])
                refine De.MidT.read (o := ?o72) (v := ?v72) 0 (by decide) ?q72 (by kernel_rfl) (by kernel_rfl) ?w72 (by kernel_rfl) ?y72 ?h72
                case q72 => (simp only [De.g0, De.g1, De.g2]; rfl)
                case w72 => kernel_rfl
                case y72 => (intro w' hw'; obtain ⟨y1, y2⟩ := hw'; go_simp; (try with_reducible rfl))
                (try simp only [Act.put, De.l0, De.l1, De.l2])
                refine De.MidT.read (o := ?o73) (v := ?v73) 1 (by decide) ?q73 (by kernel_rfl) (by kernel_rfl) ?w73 (by kernel_rfl) ?y73 ?h73
                case q73 => (simp only [De.g0, De.g1, De.g2]; rfl)
                case w73 => kernel_rfl
                case y73 => (intro w' hw'; obtain ⟨y1, y2⟩ := hw'; go_simp; (try with_reducible rfl))
                (try simp only [Act.put, De.l0, De.l1, De.l2])
                refine De.MidT.read (o := ?o74) (v := ?v74) 2 (by decide) ?q74 (by kernel_rfl) (by kernel_rfl) ?w74 (by kernel_rfl) ?y74 ?h74
                case q74 => (simp only [De.g0, De.g1, De.g2]; rfl)
                case w74 => kernel_rfl
                case y74 => (intro w' hw'; obtain ⟨y1, y2⟩ := hw'; go_simp; (try with_reducible rfl))
                (try simp only [Act.put, De.l0, De.l1, De.l2])
                refine De.MidT.read (o := ?o75) (v := ?v75) 3 (by decide) ?q75 (by kernel_rfl) (by kernel_rfl) ?w75 (by kernel_rfl) ?y75 ?h75
                case q75 => (simp only [De.g0, De.g1, De.g2]; rfl)
                case w75 => kernel_rfl
                case y75 => (intro w' hw'; obtain ⟨y1, y2⟩ := hw'; go_simp; (try with_reducible rfl))
                (try simp only [Act.put, De.l0, De.l1, De.l2])
                refine De.MidT.read (o := ?o76) (v := ?v76) 5 (by decide) ?q76 (by kernel_rfl) (by kernel_rfl) ?w76 (by kernel_rfl) ?y76 ?h76
                case q76 => (simp only [De.g0, De.g1, De.g2]; rfl)
                case w76 => kernel_rfl
                case y76 => (intro w' hw'; obtain ⟨y1, y2⟩ := hw'; go_simp; (try with_reducible rfl))
                (try simp only [Act.put, De.l0, De.l1, De.l2])
                refine De.MidT.read (o := ?o77) (v := ?v77) 6 (by decide) ?q77 (by kernel_rfl) (by kernel_rfl) ?w77 (by kernel_rfl) ?y77 ?h77
                case q77 => (simp only [De.g0, De.g1, De.g2]; rfl)
                case w77 => kernel_rfl
                case y77 => (intro w' hw'; obtain ⟨y1, y2⟩ := hw'; go_simp; (try with_reducible rfl))
                (try simp only [Act.put, De.l0, De.l1, De.l2])
                refine De.MidT.read (o := ?o78) (v := ?v78) 7 (by decide) ?q78 (by kernel_rfl) (by kernel_rfl) ?w78 (by kernel_rfl) ?y78 ?h78
                case q78 => (simp only [De.g0, De.g1, De.g2]; rfl)
                case w78 => kernel_rfl
                case y78 => (intro w' hw'; obtain ⟨y1, y2⟩ := hw'; go_simp; (try with_reducible rfl))
                (try simp only [Act.put, De.l0, De.l1, De.l2])
                refine De.MidT.read (o := ?o79) (v := ?v79) 11 (by decide) ?q79 (by kernel_rfl) (by kernel_rfl) ?w79 (by kernel_rfl) ?y79 ?h79
                case q79 => (simp only [De.g0, De.g1, De.g2]; rfl)
                case w79 => kernel_rfl
                case y79 => (intro w' hw'; obtain ⟨y1, y2⟩ := hw'; go_simp; (try with_reducible rfl))
                (try simp only [Act.put, De.l0, De.l1, De.l2])
                refine De.MidT.read (o := ?o80) (v := ?v80) 12 (by decide) ?q80 (by kernel_rfl) (by kernel_rfl) ?w80 (by kernel_rfl) ?y80 ?h80
                case q80 => (simp only [De.g0, De.g1, De.g2]; rfl)
                case w80 => kernel_rfl
                case y80 => (intro w' hw'; obtain ⟨y1, y2⟩ := hw'; go_simp; (try with_reducible rfl))
                (try simp only [Act.put, De.l0, De.l1, De.l2])
                refine De.MidT.read (o := ?o81) (v := ?v81) 13 (by decide) ?q81 (by kernel_rfl) (by kernel_rfl) ?w81 (by kernel_rfl) ?y81 ?h81
                case q81 => (simp only [De.g0, De.g1, De.g2]; rfl)
                case w81 => kernel_rfl
                case y81 => (intro w' hw'; obtain ⟨y1, y2⟩ := hw'; go_simp; (try with_reducible rfl))
                (try simp only [Act.put, De.l0, De.l1, De.l2])
                refine De.MidT.read (o := ?o82) (v := ?v82) 14 (by decide) ?q82 (by kernel_rfl) (by kernel_rfl) ?w82 (by kernel_rfl) ?y82 ?h82
                case q82 => (simp only [De.g0, De.g1, De.g2]; rfl)
                case w82 => kernel_rfl
                case y82 => (intro w' hw'; obtain ⟨y1, y2⟩ := hw'; go_simp; (try with_reducible rfl))
                (try simp only [Act.put, De.l0, De.l1, De.l2])
                refine De.MidT.read (o := ?o83) (v := ?v83) 15 (by decide) ?q83 (by kernel_rfl) (by kernel_rfl) ?w83 (by kernel_rfl) ?y83 ?h83
                case q83 => (simp only [De.g0, De.g1, De.g2]; rfl)
                case w83 => kernel_rfl
                case y83 => (intro w' hw'; obtain ⟨y1, y2⟩ := hw'; go_simp; (try with_reducible rfl))
                (try simp only [Act.put, De.l0, De.l1, De.l2])
                (try refine De.MidT.tail ?_)
                refine De.Tr.one (i := 4) (o := ?o84) (by kernel_rfl) ?q84 ?g84 ?h84
                case q84 => (simp only [De.g0, De.g1, De.g2]; rfl)
                case g84 => rfl
                refine wp_enterK 40 #[] (by go_simp) (drawers_list _) ?_
                rintro e wa ⟨adq, rfl, hra, hba⟩
                have hSa := Lib.hid (hS.out.drew.callee hba)
                refine ⟨_, rfl, ⟨_, rfl⟩, ⟨hSa.out.c2, hSa.out.c3⟩, ?_⟩
                (try simp only [Act.put, De.l0, De.l1, De.l2])
                (try refine De.MidT.tail ?_)
                refine De.Tr.one (i := 8) (o := ?o85) (by kernel_rfl) ?q85 ?g85 ?h85
                case q85 => (simp only [De.g0, De.g1, De.g2]; rfl)
                case g85 => rfl
                refine wp_enterK 39 #[.slice (some adq) 2 2, .int .u8 (h2 : Int)] (by go_simp) (one_any (some adq) 2 2 drawersL hra (by decide) (by decide) h2 l22) ?_
                rintro e wq ⟨rfl, hw⟩
                replace hw := hw.symm
                subst hw
                rw [HO4.out]
                refine ⟨_, rfl, ⟨_, rfl⟩, ⟨hSa.out.c2, hSa.out.c3⟩, ?_⟩
                (try simp only [Act.put, De.l0, De.l1, De.l2])
                refine De.MidT.read (o := ?o86) (v := ?v86) 9 (by decide) ?q86 (by kernel_rfl) (by kernel_rfl) ?w86 (by kernel_rfl) ?y86 ?h86
                case q86 => (simp only [De.g0, De.g1, De.g2]; rfl)
                case w86 => kernel_rfl
                case y86 => (intro w' hw'; obtain ⟨y1, y2⟩ := hw'; go_simp; (try with_reducible rfl))
                (try simp only [Act.put, De.l0, De.l1, De.l2])
                refine De.MidT.read (o := ?o87) (v := ?v87) 10 (by decide) ?q87 (by kernel_rfl) (by kernel_rfl) ?w87 (by kernel_rfl) ?y87 ?h87
                case q87 => (simp only [De.g0, De.g1, De.g2]; rfl)
                case w87 => kernel_rfl
                case y87 => (intro w' hw'; obtain ⟨y1, y2⟩ := hw'; go_simp; (try with_reducible rfl))
                (try simp only [Act.put, De.l0, De.l1, De.l2])
                (try refine De.MidT.tail ?_)
                refine De.Tr.one (i := 16) (o := ?o88) (by kernel_rfl) ?q88 ?g88 ?h88
                case q88 => (simp only [De.g0, De.g1, De.g2]; rfl)
                case g88 => rfl
                refine wp_enterK 44 #[.int .i64 (k24 : Int)] (by go_simp) (HIQ.out _ hSa.out.be) ?_
                rintro e wi ⟨rfl, hbi⟩
                have hSi := Lib.hid (hSa.out.callee hbi)
                refine ⟨_, rfl, ⟨_, rfl⟩, ⟨hSi.out.c2, hSi.out.c3⟩, ?_⟩
                (try simp only [Act.put, De.l0, De.l1, De.l2])
                refine De.MidT.read (o := ?o89) (v := ?v89) 17 (by decide) ?q89 (by kernel_rfl) (by kernel_rfl) ?w89 (by kernel_rfl) ?y89 ?h89
                case q89 => (simp only [De.g0, De.g1, De.g2]; rfl)
                case w89 => kernel_rfl
                case y89 => (intro w' hw'; obtain ⟨y1, y2⟩ := hw'; go_simp; (try with_reducible rfl))
                (try simp only [Act.put, De.l0, De.l1, De.l2])
                (try refine De.MidT.tail ?_)
                refine De.Tr.one (i := 18) (o := ?o90) (by kernel_rfl) ?q90 ?g90 ?h90
                case q90 => (simp only [De.g0, De.g1, De.g2]; rfl)
                case g90 => rfl
                refine wp_lit1 22 9 _ (.string s5) rfl rfl (lit_str s5) ?_
                intro w8 g8 hG8 hgr8 hge8
                have hS8 := Lib.hid (hSi.out.callee (below_grown hgr8))
                refine ⟨⟨_, rfl⟩, ⟨hS8.out.c2, hS8.out.c3⟩, ?_⟩
                (try simp only [Act.put, De.l0, De.l1, De.l2])
                (try refine De.MidT.tail ?_)
                refine De.Tr.one (i := 19) (o := ?o91) (by kernel_rfl) ?q91 ?g91 ?h91
                case q91 => (simp only [De.g0, De.g1, De.g2]; rfl)
                case g91 => rfl
                refine wp_pushS _ _ rfl rfl hS8.out.o g8 1 s5 rfl hG8 (Nat.le_trans HLN.out (by decide)) hS8.out.be.size ?_
                intro g9 cap9 w9 hO9 hgr9 hat9 hlt9
                have hB9 := Lib.hid (hS8.out.be.grown hgr9 hS8.out.be.size (fun g hg => hS8.out.o.ge hg))
                refine ⟨⟨_, rfl⟩, trivial, ?_⟩
                (try simp only [Act.put, De.l0, De.l1, De.l2])
                refine De.MidT.read2 (o := ?o92) (v := ?v92) 20 (by decide) ?q92 (by kernel_rfl) (by kernel_rfl) ?w92 ?y92 ?h92
                case q92 => (simp only [De.g0, De.g1, De.g2]; rfl)
                case w92 => kernel_rfl
                case y92 => (intro b w' hw'; clear hw'; go_simp; (try with_reducible rfl))
                (try simp only [Act.put, De.l0, De.l1, De.l2])
                (try refine De.MidT.tail ?_)
                refine De.Tr.done (by kernel_rfl) ?_
                (try simp only [Act.put, De.l0, De.l1, De.l2])
                go_wp2_with (fail)
                go_roundw
                case rel => exact ⟨i + 1, by omega, by omega, by go_num, by rw [hNX.out]; simpa [OwnS] using hO9, hB9.out⟩
                case measure => simp only [intOf]; omega
            · as_aux_lemma =>
                have er := hr
                have ei := (Int.ofNat_tmod x0 16).symm
                rw [hr] at ei
                simp only [Int.cast_ofNat_Int] at ei
                obtain ⟨j24, hj24⟩ : ∃ q, x3 % 24 = q := ⟨_, rfl⟩
                have e24 : Int.tmod (x3 : Int) 24 = (j24 : Int) := by rw [← hj24]; exact (Int.ofNat_tmod x3 24).symm
                obtain ⟨k24, hk24⟩ : ∃ q, 1 + j24 = q := ⟨_, rfl⟩
                have e25 : (1 : Int) + (j24 : Int) = (k24 : Int) := by omega
                have hw25 : IntKind.i64.wrap (k24 : Int) = k24 := IntWalk.i64_in _ (by omega)
                obtain ⟨h2, hh2⟩ : ∃ q, x2 / 2 = q := ⟨_, rfl⟩
                have l22 : h2 < 256 := by omega
                have e22 : Int.tdiv (x2 : Int) 2 = (h2 : Int) := by rw [← hh2]; exact (Int.ofNat_tdiv x2 2).symm
                have hw22 : IntKind.u8.wrap (h2 : Int) = h2 := by simp [IntKind.wrap, IntKind.signed, IntKind.bits]; omega
                obtain ⟨kq, hkq⟩ : ∃ q, kB k24 = q := ⟨_, rfl⟩
                have HKQ : Hid (kB (1 + x3 % 24) = kq) := by rw [Hid, hj24, hk24, hkq]
                have HIQ : Hid (∀ w', Below w.heap.size w w' → Calls Tryz.prog 44 #[.int .i64 (k24 : Int)] w' fun e w'' => e = .returned (.string kq) ∧ Below w'.heap.size w' w'') := fun w' hb => by
                  rw [← hkq]
                  exact itoa_any k24 (by omega) (HT.out.below hb).2
                have hkqz : kq.size ≤ 1000 := by
                  rw [← hkq, kB, ← byts_len, byts_bstr]
                  exact Nat.le_trans (dec_len k24 (by omega)) (by decide)
                obtain ⟨d4, hd4⟩ : ∃ q, oneP drawersL h2 = q := ⟨_, rfl⟩
                have HD4 : Hid (oneP drawersL (x2 / 2) = d4) := by rw [Hid, hh2, hd4]
                have HO4 := Lib.hid hd4
                have hd4z : d4.size ≤ 1000 := by rw [← hd4]; exact one_short (by decide) _
                clear hj24 hk24 hkq hh2 hd4 e3 e4 hw3
                obtain ⟨s1, s1e⟩ : ∃ q, (⟨#[111, 114, 100, 101, 114, 32]⟩ : ByteArray) ++ od = q := ⟨_, rfl⟩
                have s1a : ∀ w', (Op.stringOp .add ⟨#[111, 114, 100, 101, 114, 32]⟩ od).run Tryz.prog w' = .ok (.string s1) w' := fun w' => by rw [← s1e]; exact add_any _ _ (Nat.le_trans (show (⟨#[111, 114, 100, 101, 114, 32]⟩ : ByteArray).size ≤ 1000 by decide) (by decide)) (Nat.le_trans hodz (by decide)) w'
                have hs1z : s1.size ≤ 1000 + 1000 := sz_add s1e (m := 1000) (show (⟨#[111, 114, 100, 101, 114, 32]⟩ : ByteArray).size ≤ 1000 by decide) hodz
                obtain ⟨s2, s2e⟩ : ∃ q, s1 ++ (⟨#[32]⟩ : ByteArray) = q := ⟨_, rfl⟩
                have s2a : ∀ w', (Op.stringOp .add s1 ⟨#[32]⟩).run Tryz.prog w' = .ok (.string s2) w' := fun w' => by rw [← s2e]; exact add_any _ _ (Nat.le_trans hs1z (by decide)) (Nat.le_trans (show (⟨#[32]⟩ : ByteArray).size ≤ 1000 by decide) (by decide)) w'
                have hs2z : s2.size ≤ 2000 + 1000 := sz_add s2e (m := 2000) hs1z (show (⟨#[32]⟩ : ByteArray).size ≤ 1000 by decide)
                obtain ⟨s3, s3e⟩ : ∃ q, s2 ++ d4 = q := ⟨_, rfl⟩
                have s3a : ∀ w', (Op.stringOp .add s2 d4).run Tryz.prog w' = .ok (.string s3) w' := fun w' => by rw [← s3e]; exact add_any _ _ (Nat.le_trans hs2z (by decide)) (Nat.le_trans hd4z (by decide)) w'
                have hs3z : s3.size ≤ 3000 + 1000 := sz_add s3e (m := 3000) hs2z hd4z
                obtain ⟨s4, s4e⟩ : ∃ q, s3 ++ (⟨#[32]⟩ : ByteArray) = q := ⟨_, rfl⟩
                have s4a : ∀ w', (Op.stringOp .add s3 ⟨#[32]⟩).run Tryz.prog w' = .ok (.string s4) w' := fun w' => by rw [← s4e]; exact add_any _ _ (Nat.le_trans hs3z (by decide)) (Nat.le_trans (show (⟨#[32]⟩ : ByteArray).size ≤ 1000 by decide) (by decide)) w'
                have hs4z : s4.size ≤ 4000 + 1000 := sz_add s4e (m := 4000) hs3z (show (⟨#[32]⟩ : ByteArray).size ≤ 1000 by decide)
                obtain ⟨s5, s5e⟩ : ∃ q, s4 ++ kq = q := ⟨_, rfl⟩
                have s5a : ∀ w', (Op.stringOp .add s4 kq).run Tryz.prog w' = .ok (.string s5) w' := fun w' => by rw [← s5e]; exact add_any _ _ (Nat.le_trans hs4z (by decide)) (Nat.le_trans hkqz (by decide)) w'
                have hs5z : s5.size ≤ 5000 + 1000 := sz_add s5e (m := 5000) hs4z hkqz
                have hNX : Hid (firstL ++ (qs.take (i + 1)).map (lineS u) = ls ++ [s5]) := by
                  rw [Hid, next_line hqi.out HLS.out]
                  congr 2
                  unfold lineS
                  simp only []
                  rw [if_neg (by omega), if_neg (by omega), if_pos (by omega)]
                  rw [show orP ⟨x0, x1, x2, x3⟩ = od from HOD.out, HD4.out, HKQ.out]
                  rw [← s5e, ← s4e, ← s3e, ← s2e, ← s1e]
                  rfl
                clear er hr s1e s2e s3e s4e s5e
                go_wp2_with (fail)
                refine De.region_tree (fun b w' => bif b then (True) else (w'.cell? ⟨g5, 2, none⟩ = some (.int .u8 (x2 : Int)) ∧ w'.cell? ⟨g5, 3, none⟩ = some (.int .u8 (x3 : Int)))) 19 5 (by kernel_rfl) (by kernel_rfl) (by decide) ⟨hS.out.c2, hS.out.c3⟩ ?_
                (try simp only [Act.put, De.l0, De.l1, De.l2])
                refine De.MidT.read (o := ?o93) (v := ?v93) 0 (by decide) ?q93 (by kernel_rfl) (by kernel_rfl) ?w93 (by kernel_rfl) ?y93 ?h93
                case q93 => (simp only [De.g0, De.g1, De.g2]; rfl)
                case w93 => kernel_rfl
                case y93 => (intro w' hw'; obtain ⟨y1, y2⟩ := hw'; go_simp; (try with_reducible rfl))
                (try simp only [Act.put, De.l0, De.l1, De.l2])
                refine De.MidT.read (o := ?o94) (v := ?v94) 1 (by decide) ?q94 (by kernel_rfl) (by kernel_rfl) ?w94 (by kernel_rfl) ?y94 ?h94
                case q94 => (simp only [De.g0, De.g1, De.g2]; rfl)
                case w94 => kernel_rfl
                case y94 => (intro w' hw'; obtain ⟨y1, y2⟩ := hw'; go_simp; (try with_reducible rfl))
                (try simp only [Act.put, De.l0, De.l1, De.l2])
                refine De.MidT.read (o := ?o95) (v := ?v95) 2 (by decide) ?q95 (by kernel_rfl) (by kernel_rfl) ?w95 (by kernel_rfl) ?y95 ?h95
                case q95 => (simp only [De.g0, De.g1, De.g2]; rfl)
                case w95 => kernel_rfl
                case y95 => (intro w' hw'; obtain ⟨y1, y2⟩ := hw'; go_simp; (try with_reducible rfl))
                (try simp only [Act.put, De.l0, De.l1, De.l2])
                refine De.MidT.read (o := ?o96) (v := ?v96) 3 (by decide) ?q96 (by kernel_rfl) (by kernel_rfl) ?w96 (by kernel_rfl) ?y96 ?h96
                case q96 => (simp only [De.g0, De.g1, De.g2]; rfl)
                case w96 => kernel_rfl
                case y96 => (intro w' hw'; obtain ⟨y1, y2⟩ := hw'; go_simp; (try with_reducible rfl))
                (try simp only [Act.put, De.l0, De.l1, De.l2])
                refine De.MidT.read (o := ?o97) (v := ?v97) 5 (by decide) ?q97 (by kernel_rfl) (by kernel_rfl) ?w97 (by kernel_rfl) ?y97 ?h97
                case q97 => (simp only [De.g0, De.g1, De.g2]; rfl)
                case w97 => kernel_rfl
                case y97 => (intro w' hw'; obtain ⟨y1, y2⟩ := hw'; go_simp; (try with_reducible rfl))
                (try simp only [Act.put, De.l0, De.l1, De.l2])
                refine De.MidT.read (o := ?o98) (v := ?v98) 6 (by decide) ?q98 (by kernel_rfl) (by kernel_rfl) ?w98 (by kernel_rfl) ?y98 ?h98
                case q98 => (simp only [De.g0, De.g1, De.g2]; rfl)
                case w98 => kernel_rfl
                case y98 => (intro w' hw'; obtain ⟨y1, y2⟩ := hw'; go_simp; (try with_reducible rfl))
                (try simp only [Act.put, De.l0, De.l1, De.l2])
                refine De.MidT.read (o := ?o99) (v := ?v99) 7 (by decide) ?q99 (by kernel_rfl) (by kernel_rfl) ?w99 (by kernel_rfl) ?y99 ?h99
                case q99 => (simp only [De.g0, De.g1, De.g2]; rfl)
                case w99 => kernel_rfl
                case y99 => (intro w' hw'; obtain ⟨y1, y2⟩ := hw'; go_simp; (try with_reducible rfl))
                (try simp only [Act.put, De.l0, De.l1, De.l2])
                refine De.MidT.read (o := ?o100) (v := ?v100) 11 (by decide) ?q100 (by kernel_rfl) (by kernel_rfl) ?w100 (by kernel_rfl) ?y100 ?h100
                case q100 => (simp only [De.g0, De.g1, De.g2]; rfl)
                case w100 => kernel_rfl
                case y100 => (intro w' hw'; obtain ⟨y1, y2⟩ := hw'; go_simp; (try with_reducible rfl))
                (try simp only [Act.put, De.l0, De.l1, De.l2])
                refine De.MidT.read (o := ?o101) (v := ?v101) 12 (by decide) ?q101 (by kernel_rfl) (by kernel_rfl) ?w101 (by kernel_rfl) ?y101 ?h101
                case q101 => (simp only [De.g0, De.g1, De.g2]; rfl)
                case w101 => kernel_rfl
                case y101 => (intro w' hw'; obtain ⟨y1, y2⟩ := hw'; go_simp; (try with_reducible rfl))
                (try simp only [Act.put, De.l0, De.l1, De.l2])
                refine De.MidT.read (o := ?o102) (v := ?v102) 13 (by decide) ?q102 (by kernel_rfl) (by kernel_rfl) ?w102 (by kernel_rfl) ?y102 ?h102
                case q102 => (simp only [De.g0, De.g1, De.g2]; rfl)
                case w102 => kernel_rfl
                case y102 => (intro w' hw'; obtain ⟨y1, y2⟩ := hw'; go_simp; (try with_reducible rfl))
                (try simp only [Act.put, De.l0, De.l1, De.l2])
                refine De.MidT.read (o := ?o103) (v := ?v103) 14 (by decide) ?q103 (by kernel_rfl) (by kernel_rfl) ?w103 (by kernel_rfl) ?y103 ?h103
                case q103 => (simp only [De.g0, De.g1, De.g2]; rfl)
                case w103 => kernel_rfl
                case y103 => (intro w' hw'; obtain ⟨y1, y2⟩ := hw'; go_simp; (try with_reducible rfl))
                (try simp only [Act.put, De.l0, De.l1, De.l2])
                refine De.MidT.read (o := ?o104) (v := ?v104) 15 (by decide) ?q104 (by kernel_rfl) (by kernel_rfl) ?w104 (by kernel_rfl) ?y104 ?h104
                case q104 => (simp only [De.g0, De.g1, De.g2]; rfl)
                case w104 => kernel_rfl
                case y104 => (intro w' hw'; obtain ⟨y1, y2⟩ := hw'; go_simp; (try with_reducible rfl))
                (try simp only [Act.put, De.l0, De.l1, De.l2])
                (try refine De.MidT.tail ?_)
                refine De.Tr.one (i := 4) (o := ?o105) (by kernel_rfl) ?q105 ?g105 ?h105
                case q105 => (simp only [De.g0, De.g1, De.g2]; rfl)
                case g105 => rfl
                refine wp_enterK 40 #[] (by go_simp) (drawers_list _) ?_
                rintro e wa ⟨adq, rfl, hra, hba⟩
                have hSa := Lib.hid (hS.out.drew.callee hba)
                refine ⟨_, rfl, ⟨_, rfl⟩, ⟨hSa.out.c2, hSa.out.c3⟩, ?_⟩
                (try simp only [Act.put, De.l0, De.l1, De.l2])
                (try refine De.MidT.tail ?_)
                refine De.Tr.one (i := 8) (o := ?o106) (by kernel_rfl) ?q106 ?g106 ?h106
                case q106 => (simp only [De.g0, De.g1, De.g2]; rfl)
                case g106 => rfl
                refine wp_enterK 39 #[.slice (some adq) 2 2, .int .u8 (h2 : Int)] (by go_simp) (one_any (some adq) 2 2 drawersL hra (by decide) (by decide) h2 l22) ?_
                rintro e wq ⟨rfl, hw⟩
                replace hw := hw.symm
                subst hw
                rw [HO4.out]
                refine ⟨_, rfl, ⟨_, rfl⟩, ⟨hSa.out.c2, hSa.out.c3⟩, ?_⟩
                (try simp only [Act.put, De.l0, De.l1, De.l2])
                refine De.MidT.read (o := ?o107) (v := ?v107) 9 (by decide) ?q107 (by kernel_rfl) (by kernel_rfl) ?w107 (by kernel_rfl) ?y107 ?h107
                case q107 => (simp only [De.g0, De.g1, De.g2]; rfl)
                case w107 => kernel_rfl
                case y107 => (intro w' hw'; obtain ⟨y1, y2⟩ := hw'; go_simp; (try with_reducible rfl))
                (try simp only [Act.put, De.l0, De.l1, De.l2])
                refine De.MidT.read (o := ?o108) (v := ?v108) 10 (by decide) ?q108 (by kernel_rfl) (by kernel_rfl) ?w108 (by kernel_rfl) ?y108 ?h108
                case q108 => (simp only [De.g0, De.g1, De.g2]; rfl)
                case w108 => kernel_rfl
                case y108 => (intro w' hw'; obtain ⟨y1, y2⟩ := hw'; go_simp; (try with_reducible rfl))
                (try simp only [Act.put, De.l0, De.l1, De.l2])
                (try refine De.MidT.tail ?_)
                refine De.Tr.one (i := 16) (o := ?o109) (by kernel_rfl) ?q109 ?g109 ?h109
                case q109 => (simp only [De.g0, De.g1, De.g2]; rfl)
                case g109 => rfl
                refine wp_enterK 44 #[.int .i64 (k24 : Int)] (by go_simp) (HIQ.out _ hSa.out.be) ?_
                rintro e wi ⟨rfl, hbi⟩
                have hSi := Lib.hid (hSa.out.callee hbi)
                refine ⟨_, rfl, ⟨_, rfl⟩, ⟨hSi.out.c2, hSi.out.c3⟩, ?_⟩
                (try simp only [Act.put, De.l0, De.l1, De.l2])
                refine De.MidT.read (o := ?o110) (v := ?v110) 17 (by decide) ?q110 (by kernel_rfl) (by kernel_rfl) ?w110 (by kernel_rfl) ?y110 ?h110
                case q110 => (simp only [De.g0, De.g1, De.g2]; rfl)
                case w110 => kernel_rfl
                case y110 => (intro w' hw'; obtain ⟨y1, y2⟩ := hw'; go_simp; (try with_reducible rfl))
                (try simp only [Act.put, De.l0, De.l1, De.l2])
                (try refine De.MidT.tail ?_)
                refine De.Tr.one (i := 18) (o := ?o111) (by kernel_rfl) ?q111 ?g111 ?h111
                case q111 => (simp only [De.g0, De.g1, De.g2]; rfl)
                case g111 => rfl
                refine wp_lit1 22 9 _ (.string s5) rfl rfl (lit_str s5) ?_
                intro w8 g8 hG8 hgr8 hge8
                have hS8 := Lib.hid (hSi.out.callee (below_grown hgr8))
                refine ⟨⟨_, rfl⟩, ⟨hS8.out.c2, hS8.out.c3⟩, ?_⟩
                (try simp only [Act.put, De.l0, De.l1, De.l2])
                (try refine De.MidT.tail ?_)
                refine De.Tr.one (i := 19) (o := ?o112) (by kernel_rfl) ?q112 ?g112 ?h112
                case q112 => (simp only [De.g0, De.g1, De.g2]; rfl)
                case g112 => rfl
                refine wp_pushS _ _ rfl rfl hS8.out.o g8 1 s5 rfl hG8 (Nat.le_trans HLN.out (by decide)) hS8.out.be.size ?_
                intro g9 cap9 w9 hO9 hgr9 hat9 hlt9
                have hB9 := Lib.hid (hS8.out.be.grown hgr9 hS8.out.be.size (fun g hg => hS8.out.o.ge hg))
                refine ⟨⟨_, rfl⟩, trivial, ?_⟩
                (try simp only [Act.put, De.l0, De.l1, De.l2])
                refine De.MidT.read2 (o := ?o113) (v := ?v113) 20 (by decide) ?q113 (by kernel_rfl) (by kernel_rfl) ?w113 ?y113 ?h113
                case q113 => (simp only [De.g0, De.g1, De.g2]; rfl)
                case w113 => kernel_rfl
                case y113 => (intro b w' hw'; clear hw'; go_simp; (try with_reducible rfl))
                (try simp only [Act.put, De.l0, De.l1, De.l2])
                (try refine De.MidT.tail ?_)
                refine De.Tr.done (by kernel_rfl) ?_
                (try simp only [Act.put, De.l0, De.l1, De.l2])
                go_wp2_with (fail)
                go_roundw
                case rel => exact ⟨i + 1, by omega, by omega, by go_num, by rw [hNX.out]; simpa [OwnS] using hO9, hB9.out⟩
                case measure => simp only [intOf]; omega
            · as_aux_lemma =>
                have er := hr
                have ei := (Int.ofNat_tmod x0 16).symm
                rw [hr] at ei
                simp only [Int.cast_ofNat_Int] at ei
                obtain ⟨j24, hj24⟩ : ∃ q, x3 % 24 = q := ⟨_, rfl⟩
                have e24 : Int.tmod (x3 : Int) 24 = (j24 : Int) := by rw [← hj24]; exact (Int.ofNat_tmod x3 24).symm
                obtain ⟨k24, hk24⟩ : ∃ q, 1 + j24 = q := ⟨_, rfl⟩
                have e25 : (1 : Int) + (j24 : Int) = (k24 : Int) := by omega
                have hw25 : IntKind.i64.wrap (k24 : Int) = k24 := IntWalk.i64_in _ (by omega)
                obtain ⟨h2, hh2⟩ : ∃ q, x2 / 2 = q := ⟨_, rfl⟩
                have l22 : h2 < 256 := by omega
                have e22 : Int.tdiv (x2 : Int) 2 = (h2 : Int) := by rw [← hh2]; exact (Int.ofNat_tdiv x2 2).symm
                have hw22 : IntKind.u8.wrap (h2 : Int) = h2 := by simp [IntKind.wrap, IntKind.signed, IntKind.bits]; omega
                obtain ⟨kq, hkq⟩ : ∃ q, kB k24 = q := ⟨_, rfl⟩
                have HKQ : Hid (kB (1 + x3 % 24) = kq) := by rw [Hid, hj24, hk24, hkq]
                have HIQ : Hid (∀ w', Below w.heap.size w w' → Calls Tryz.prog 44 #[.int .i64 (k24 : Int)] w' fun e w'' => e = .returned (.string kq) ∧ Below w'.heap.size w' w'') := fun w' hb => by
                  rw [← hkq]
                  exact itoa_any k24 (by omega) (HT.out.below hb).2
                have hkqz : kq.size ≤ 1000 := by
                  rw [← hkq, kB, ← byts_len, byts_bstr]
                  exact Nat.le_trans (dec_len k24 (by omega)) (by decide)
                obtain ⟨d4, hd4⟩ : ∃ q, oneP drawersL h2 = q := ⟨_, rfl⟩
                have HD4 : Hid (oneP drawersL (x2 / 2) = d4) := by rw [Hid, hh2, hd4]
                have HO4 := Lib.hid hd4
                have hd4z : d4.size ≤ 1000 := by rw [← hd4]; exact one_short (by decide) _
                clear hj24 hk24 hkq hh2 hd4 e3 e4 hw3
                obtain ⟨s1, s1e⟩ : ∃ q, (⟨#[111, 114, 100, 101, 114, 32]⟩ : ByteArray) ++ od = q := ⟨_, rfl⟩
                have s1a : ∀ w', (Op.stringOp .add ⟨#[111, 114, 100, 101, 114, 32]⟩ od).run Tryz.prog w' = .ok (.string s1) w' := fun w' => by rw [← s1e]; exact add_any _ _ (Nat.le_trans (show (⟨#[111, 114, 100, 101, 114, 32]⟩ : ByteArray).size ≤ 1000 by decide) (by decide)) (Nat.le_trans hodz (by decide)) w'
                have hs1z : s1.size ≤ 1000 + 1000 := sz_add s1e (m := 1000) (show (⟨#[111, 114, 100, 101, 114, 32]⟩ : ByteArray).size ≤ 1000 by decide) hodz
                obtain ⟨s2, s2e⟩ : ∃ q, s1 ++ (⟨#[32]⟩ : ByteArray) = q := ⟨_, rfl⟩
                have s2a : ∀ w', (Op.stringOp .add s1 ⟨#[32]⟩).run Tryz.prog w' = .ok (.string s2) w' := fun w' => by rw [← s2e]; exact add_any _ _ (Nat.le_trans hs1z (by decide)) (Nat.le_trans (show (⟨#[32]⟩ : ByteArray).size ≤ 1000 by decide) (by decide)) w'
                have hs2z : s2.size ≤ 2000 + 1000 := sz_add s2e (m := 2000) hs1z (show (⟨#[32]⟩ : ByteArray).size ≤ 1000 by decide)
                obtain ⟨s3, s3e⟩ : ∃ q, s2 ++ d4 = q := ⟨_, rfl⟩
                have s3a : ∀ w', (Op.stringOp .add s2 d4).run Tryz.prog w' = .ok (.string s3) w' := fun w' => by rw [← s3e]; exact add_any _ _ (Nat.le_trans hs2z (by decide)) (Nat.le_trans hd4z (by decide)) w'
                have hs3z : s3.size ≤ 3000 + 1000 := sz_add s3e (m := 3000) hs2z hd4z
                obtain ⟨s4, s4e⟩ : ∃ q, s3 ++ (⟨#[32]⟩ : ByteArray) = q := ⟨_, rfl⟩
                have s4a : ∀ w', (Op.stringOp .add s3 ⟨#[32]⟩).run Tryz.prog w' = .ok (.string s4) w' := fun w' => by rw [← s4e]; exact add_any _ _ (Nat.le_trans hs3z (by decide)) (Nat.le_trans (show (⟨#[32]⟩ : ByteArray).size ≤ 1000 by decide) (by decide)) w'
                have hs4z : s4.size ≤ 4000 + 1000 := sz_add s4e (m := 4000) hs3z (show (⟨#[32]⟩ : ByteArray).size ≤ 1000 by decide)
                obtain ⟨s5, s5e⟩ : ∃ q, s4 ++ kq = q := ⟨_, rfl⟩
                have s5a : ∀ w', (Op.stringOp .add s4 kq).run Tryz.prog w' = .ok (.string s5) w' := fun w' => by rw [← s5e]; exact add_any _ _ (Nat.le_trans hs4z (by decide)) (Nat.le_trans hkqz (by decide)) w'
                have hs5z : s5.size ≤ 5000 + 1000 := sz_add s5e (m := 5000) hs4z hkqz
                have hNX : Hid (firstL ++ (qs.take (i + 1)).map (lineS u) = ls ++ [s5]) := by
                  rw [Hid, next_line hqi.out HLS.out]
                  congr 2
                  unfold lineS
                  simp only []
                  rw [if_neg (by omega), if_neg (by omega), if_pos (by omega)]
                  rw [show orP ⟨x0, x1, x2, x3⟩ = od from HOD.out, HD4.out, HKQ.out]
                  rw [← s5e, ← s4e, ← s3e, ← s2e, ← s1e]
                  rfl
                clear er hr s1e s2e s3e s4e s5e
                go_wp2_with (fail)
                refine De.region_tree (fun b w' => bif b then (True) else (w'.cell? ⟨g5, 2, none⟩ = some (.int .u8 (x2 : Int)) ∧ w'.cell? ⟨g5, 3, none⟩ = some (.int .u8 (x3 : Int)))) 19 5 (by kernel_rfl) (by kernel_rfl) (by decide) ⟨hS.out.c2, hS.out.c3⟩ ?_
                (try simp only [Act.put, De.l0, De.l1, De.l2])
                refine De.MidT.read (o := ?o114) (v := ?v114) 0 (by decide) ?q114 (by kernel_rfl) (by kernel_rfl) ?w114 (by kernel_rfl) ?y114 ?h114
                case q114 => (simp only [De.g0, De.g1, De.g2]; rfl)
                case w114 => kernel_rfl
                case y114 => (intro w' hw'; obtain ⟨y1, y2⟩ := hw'; go_simp; (try with_reducible rfl))
                (try simp only [Act.put, De.l0, De.l1, De.l2])
                refine De.MidT.read (o := ?o115) (v := ?v115) 1 (by decide) ?q115 (by kernel_rfl) (by kernel_rfl) ?w115 (by kernel_rfl) ?y115 ?h115
                case q115 => (simp only [De.g0, De.g1, De.g2]; rfl)
                case w115 => kernel_rfl
                case y115 => (intro w' hw'; obtain ⟨y1, y2⟩ := hw'; go_simp; (try with_reducible rfl))
                (try simp only [Act.put, De.l0, De.l1, De.l2])
                refine De.MidT.read (o := ?o116) (v := ?v116) 2 (by decide) ?q116 (by kernel_rfl) (by kernel_rfl) ?w116 (by kernel_rfl) ?y116 ?h116
                case q116 => (simp only [De.g0, De.g1, De.g2]; rfl)
                case w116 => kernel_rfl
                case y116 => (intro w' hw'; obtain ⟨y1, y2⟩ := hw'; go_simp; (try with_reducible rfl))
                (try simp only [Act.put, De.l0, De.l1, De.l2])
                refine De.MidT.read (o := ?o117) (v := ?v117) 3 (by decide) ?q117 (by kernel_rfl) (by kernel_rfl) ?w117 (by kernel_rfl) ?y117 ?h117
                case q117 => (simp only [De.g0, De.g1, De.g2]; rfl)
                case w117 => kernel_rfl
                case y117 => (intro w' hw'; obtain ⟨y1, y2⟩ := hw'; go_simp; (try with_reducible rfl))
                (try simp only [Act.put, De.l0, De.l1, De.l2])
                refine De.MidT.read (o := ?o118) (v := ?v118) 5 (by decide) ?q118 (by kernel_rfl) (by kernel_rfl) ?w118 (by kernel_rfl) ?y118 ?h118
                case q118 => (simp only [De.g0, De.g1, De.g2]; rfl)
                case w118 => kernel_rfl
                case y118 => (intro w' hw'; obtain ⟨y1, y2⟩ := hw'; go_simp; (try with_reducible rfl))
                (try simp only [Act.put, De.l0, De.l1, De.l2])
                refine De.MidT.read (o := ?o119) (v := ?v119) 6 (by decide) ?q119 (by kernel_rfl) (by kernel_rfl) ?w119 (by kernel_rfl) ?y119 ?h119
                case q119 => (simp only [De.g0, De.g1, De.g2]; rfl)
                case w119 => kernel_rfl
                case y119 => (intro w' hw'; obtain ⟨y1, y2⟩ := hw'; go_simp; (try with_reducible rfl))
                (try simp only [Act.put, De.l0, De.l1, De.l2])
                refine De.MidT.read (o := ?o120) (v := ?v120) 7 (by decide) ?q120 (by kernel_rfl) (by kernel_rfl) ?w120 (by kernel_rfl) ?y120 ?h120
                case q120 => (simp only [De.g0, De.g1, De.g2]; rfl)
                case w120 => kernel_rfl
                case y120 => (intro w' hw'; obtain ⟨y1, y2⟩ := hw'; go_simp; (try with_reducible rfl))
                (try simp only [Act.put, De.l0, De.l1, De.l2])
                refine De.MidT.read (o := ?o121) (v := ?v121) 11 (by decide) ?q121 (by kernel_rfl) (by kernel_rfl) ?w121 (by kernel_rfl) ?y121 ?h121
                case q121 => (simp only [De.g0, De.g1, De.g2]; rfl)
                case w121 => kernel_rfl
                case y121 => (intro w' hw'; obtain ⟨y1, y2⟩ := hw'; go_simp; (try with_reducible rfl))
                (try simp only [Act.put, De.l0, De.l1, De.l2])
                refine De.MidT.read (o := ?o122) (v := ?v122) 12 (by decide) ?q122 (by kernel_rfl) (by kernel_rfl) ?w122 (by kernel_rfl) ?y122 ?h122
                case q122 => (simp only [De.g0, De.g1, De.g2]; rfl)
                case w122 => kernel_rfl
                case y122 => (intro w' hw'; obtain ⟨y1, y2⟩ := hw'; go_simp; (try with_reducible rfl))
                (try simp only [Act.put, De.l0, De.l1, De.l2])
                refine De.MidT.read (o := ?o123) (v := ?v123) 13 (by decide) ?q123 (by kernel_rfl) (by kernel_rfl) ?w123 (by kernel_rfl) ?y123 ?h123
                case q123 => (simp only [De.g0, De.g1, De.g2]; rfl)
                case w123 => kernel_rfl
                case y123 => (intro w' hw'; obtain ⟨y1, y2⟩ := hw'; go_simp; (try with_reducible rfl))
                (try simp only [Act.put, De.l0, De.l1, De.l2])
                refine De.MidT.read (o := ?o124) (v := ?v124) 14 (by decide) ?q124 (by kernel_rfl) (by kernel_rfl) ?w124 (by kernel_rfl) ?y124 ?h124
                case q124 => (simp only [De.g0, De.g1, De.g2]; rfl)
                case w124 => kernel_rfl
                case y124 => (intro w' hw'; obtain ⟨y1, y2⟩ := hw'; go_simp; (try with_reducible rfl))
                (try simp only [Act.put, De.l0, De.l1, De.l2])
                refine De.MidT.read (o := ?o125) (v := ?v125) 15 (by decide) ?q125 (by kernel_rfl) (by kernel_rfl) ?w125 (by kernel_rfl) ?y125 ?h125
                case q125 => (simp only [De.g0, De.g1, De.g2]; rfl)
                case w125 => kernel_rfl
                case y125 => (intro w' hw'; obtain ⟨y1, y2⟩ := hw'; go_simp; (try with_reducible rfl))
                (try simp only [Act.put, De.l0, De.l1, De.l2])
                (try refine De.MidT.tail ?_)
                refine De.Tr.one (i := 4) (o := ?o126) (by kernel_rfl) ?q126 ?g126 ?h126
                case q126 => (simp only [De.g0, De.g1, De.g2]; rfl)
                case g126 => rfl
                refine wp_enterK 40 #[] (by go_simp) (drawers_list _) ?_
                rintro e wa ⟨adq, rfl, hra, hba⟩
                have hSa := Lib.hid (hS.out.drew.callee hba)
                refine ⟨_, rfl, ⟨_, rfl⟩, ⟨hSa.out.c2, hSa.out.c3⟩, ?_⟩
                (try simp only [Act.put, De.l0, De.l1, De.l2])
                (try refine De.MidT.tail ?_)
                refine De.Tr.one (i := 8) (o := ?o127) (by kernel_rfl) ?q127 ?g127 ?h127
                case q127 => (simp only [De.g0, De.g1, De.g2]; rfl)
                case g127 => rfl
                refine wp_enterK 39 #[.slice (some adq) 2 2, .int .u8 (h2 : Int)] (by go_simp) (one_any (some adq) 2 2 drawersL hra (by decide) (by decide) h2 l22) ?_
                rintro e wq ⟨rfl, hw⟩
                replace hw := hw.symm
                subst hw
                rw [HO4.out]
                refine ⟨_, rfl, ⟨_, rfl⟩, ⟨hSa.out.c2, hSa.out.c3⟩, ?_⟩
                (try simp only [Act.put, De.l0, De.l1, De.l2])
                refine De.MidT.read (o := ?o128) (v := ?v128) 9 (by decide) ?q128 (by kernel_rfl) (by kernel_rfl) ?w128 (by kernel_rfl) ?y128 ?h128
                case q128 => (simp only [De.g0, De.g1, De.g2]; rfl)
                case w128 => kernel_rfl
                case y128 => (intro w' hw'; obtain ⟨y1, y2⟩ := hw'; go_simp; (try with_reducible rfl))
                (try simp only [Act.put, De.l0, De.l1, De.l2])
                refine De.MidT.read (o := ?o129) (v := ?v129) 10 (by decide) ?q129 (by kernel_rfl) (by kernel_rfl) ?w129 (by kernel_rfl) ?y129 ?h129
                case q129 => (simp only [De.g0, De.g1, De.g2]; rfl)
                case w129 => kernel_rfl
                case y129 => (intro w' hw'; obtain ⟨y1, y2⟩ := hw'; go_simp; (try with_reducible rfl))
                (try simp only [Act.put, De.l0, De.l1, De.l2])
                (try refine De.MidT.tail ?_)
                refine De.Tr.one (i := 16) (o := ?o130) (by kernel_rfl) ?q130 ?g130 ?h130
                case q130 => (simp only [De.g0, De.g1, De.g2]; rfl)
                case g130 => rfl
                refine wp_enterK 44 #[.int .i64 (k24 : Int)] (by go_simp) (HIQ.out _ hSa.out.be) ?_
                rintro e wi ⟨rfl, hbi⟩
                have hSi := Lib.hid (hSa.out.callee hbi)
                refine ⟨_, rfl, ⟨_, rfl⟩, ⟨hSi.out.c2, hSi.out.c3⟩, ?_⟩
                (try simp only [Act.put, De.l0, De.l1, De.l2])
                refine De.MidT.read (o := ?o131) (v := ?v131) 17 (by decide) ?q131 (by kernel_rfl) (by kernel_rfl) ?w131 (by kernel_rfl) ?y131 ?h131
                case q131 => (simp only [De.g0, De.g1, De.g2]; rfl)
                case w131 => kernel_rfl
                case y131 => (intro w' hw'; obtain ⟨y1, y2⟩ := hw'; go_simp; (try with_reducible rfl))
                (try simp only [Act.put, De.l0, De.l1, De.l2])
                (try refine De.MidT.tail ?_)
                refine De.Tr.one (i := 18) (o := ?o132) (by kernel_rfl) ?q132 ?g132 ?h132
                case q132 => (simp only [De.g0, De.g1, De.g2]; rfl)
                case g132 => rfl
                refine wp_lit1 22 9 _ (.string s5) rfl rfl (lit_str s5) ?_
                intro w8 g8 hG8 hgr8 hge8
                have hS8 := Lib.hid (hSi.out.callee (below_grown hgr8))
                refine ⟨⟨_, rfl⟩, ⟨hS8.out.c2, hS8.out.c3⟩, ?_⟩
                (try simp only [Act.put, De.l0, De.l1, De.l2])
                (try refine De.MidT.tail ?_)
                refine De.Tr.one (i := 19) (o := ?o133) (by kernel_rfl) ?q133 ?g133 ?h133
                case q133 => (simp only [De.g0, De.g1, De.g2]; rfl)
                case g133 => rfl
                refine wp_pushS _ _ rfl rfl hS8.out.o g8 1 s5 rfl hG8 (Nat.le_trans HLN.out (by decide)) hS8.out.be.size ?_
                intro g9 cap9 w9 hO9 hgr9 hat9 hlt9
                have hB9 := Lib.hid (hS8.out.be.grown hgr9 hS8.out.be.size (fun g hg => hS8.out.o.ge hg))
                refine ⟨⟨_, rfl⟩, trivial, ?_⟩
                (try simp only [Act.put, De.l0, De.l1, De.l2])
                refine De.MidT.read2 (o := ?o134) (v := ?v134) 20 (by decide) ?q134 (by kernel_rfl) (by kernel_rfl) ?w134 ?y134 ?h134
                case q134 => (simp only [De.g0, De.g1, De.g2]; rfl)
                case w134 => kernel_rfl
                case y134 => (intro b w' hw'; clear hw'; go_simp; (try with_reducible rfl))
                (try simp only [Act.put, De.l0, De.l1, De.l2])
                (try refine De.MidT.tail ?_)
                refine De.Tr.done (by kernel_rfl) ?_
                (try simp only [Act.put, De.l0, De.l1, De.l2])
                go_wp2_with (fail)
                go_roundw
                case rel => exact ⟨i + 1, by omega, by omega, by go_num, by rw [hNX.out]; simpa [OwnS] using hO9, hB9.out⟩
                case measure => simp only [intOf]; omega
          · -- [9, 10]
            as_aux_lemma =>
              rcases hg with rfl | rfl <;> (
                have er := hr
                have ei := (Int.ofNat_tmod x0 16).symm
                rw [hr] at ei
                simp only [Int.cast_ofNat_Int] at ei
                obtain ⟨s1, s1e⟩ : ∃ q, (⟨#[98, 97, 99, 107, 32]⟩ : ByteArray) ++ od = q := ⟨_, rfl⟩
                have s1a : ∀ w', (Op.stringOp .add ⟨#[98, 97, 99, 107, 32]⟩ od).run Tryz.prog w' = .ok (.string s1) w' := fun w' => by rw [← s1e]; exact add_any _ _ (Nat.le_trans (show (⟨#[98, 97, 99, 107, 32]⟩ : ByteArray).size ≤ 1000 by decide) (by decide)) (Nat.le_trans hodz (by decide)) w'
                have hs1z : s1.size ≤ 1000 + 1000 := sz_add s1e (m := 1000) (show (⟨#[98, 97, 99, 107, 32]⟩ : ByteArray).size ≤ 1000 by decide) hodz
                have hNX : Hid (firstL ++ (qs.take (i + 1)).map (lineS u) = ls ++ [s1]) := by
                  rw [Hid, next_line hqi.out HLS.out]
                  congr 2
                  unfold lineS
                  simp only []
                  rw [if_neg (by omega), if_neg (by omega), if_neg (by omega), if_pos (by omega)]
                  rw [show orP ⟨x0, x1, x2, x3⟩ = od from HOD.out]
                  rw [← s1e]
                clear er hr s1e
                go_wp2_with (first
              | (with_reducible show wpList _ _ _ (⟨_, .buildSlice 22 _ _, _, _, _, _⟩ :: _) _ _
                 refine wpList_lit1 rfl 22 9 _ (.string s1) rfl rfl (lit_str s1) ?_
                 intro w8 g8 hG8 hgr8 hge8
                 have hS8 := Lib.hid (hS.out.callee (below_grown hgr8)))
              | (at_builtin
                 refine wpList_pushS rfl _ _ rfl rfl hS8.out.o g8 1 s1 rfl hG8 (Nat.le_trans HLN.out (by decide)) hS8.out.be.size ?_
                 intro g9 cap9 w9 hO9 hgr9 hat9 hlt9
                 have hB9 := Lib.hid (hS8.out.be.grown hgr9 hS8.out.be.size (fun g hg => hS8.out.o.ge hg))))
                go_roundw
                case rel => exact ⟨i + 1, by omega, by omega, by go_num, by rw [hNX.out]; simpa [OwnS] using hO9, hB9.out⟩
                case measure => simp only [intOf]; omega)
          · -- [11]
            as_aux_lemma =>
              subst hg
              have er := hr
              have ei := (Int.ofNat_tmod x0 16).symm
              rw [hr] at ei
              simp only [Int.cast_ofNat_Int] at ei
              obtain ⟨s1, s1e⟩ : ∃ q, (⟨#[109, 111, 116, 104, 32]⟩ : ByteArray) ++ dr = q := ⟨_, rfl⟩
              have s1a : ∀ w', (Op.stringOp .add ⟨#[109, 111, 116, 104, 32]⟩ dr).run Tryz.prog w' = .ok (.string s1) w' := fun w' => by rw [← s1e]; exact add_any _ _ (Nat.le_trans (show (⟨#[109, 111, 116, 104, 32]⟩ : ByteArray).size ≤ 1000 by decide) (by decide)) (Nat.le_trans hdrz (by decide)) w'
              have hs1z : s1.size ≤ 1000 + 1000 := sz_add s1e (m := 1000) (show (⟨#[109, 111, 116, 104, 32]⟩ : ByteArray).size ≤ 1000 by decide) hdrz
              obtain ⟨s2, s2e⟩ : ∃ q, s1 ++ (⟨#[32]⟩ : ByteArray) = q := ⟨_, rfl⟩
              have s2a : ∀ w', (Op.stringOp .add s1 ⟨#[32]⟩).run Tryz.prog w' = .ok (.string s2) w' := fun w' => by rw [← s2e]; exact add_any _ _ (Nat.le_trans hs1z (by decide)) (Nat.le_trans (show (⟨#[32]⟩ : ByteArray).size ≤ 1000 by decide) (by decide)) w'
              have hs2z : s2.size ≤ 2000 + 1000 := sz_add s2e (m := 2000) hs1z (show (⟨#[32]⟩ : ByteArray).size ≤ 1000 by decide)
              obtain ⟨s3, s3e⟩ : ∃ q, s2 ++ sz = q := ⟨_, rfl⟩
              have s3a : ∀ w', (Op.stringOp .add s2 sz).run Tryz.prog w' = .ok (.string s3) w' := fun w' => by rw [← s3e]; exact add_any _ _ (Nat.le_trans hs2z (by decide)) (Nat.le_trans hszz (by decide)) w'
              have hs3z : s3.size ≤ 3000 + 1000 := sz_add s3e (m := 3000) hs2z hszz
              have hNX : Hid (firstL ++ (qs.take (i + 1)).map (lineS u) = ls ++ [s3]) := by
                rw [Hid, next_line hqi.out HLS.out]
                congr 2
                unfold lineS
                simp only []
                rw [if_neg (by omega), if_neg (by omega), if_neg (by omega), if_neg (by omega), if_pos (by omega)]
                rw [show drP ⟨x0, x1, x2, x3⟩ = dr from HDR.out, show szP ⟨x0, x1, x2, x3⟩ = sz from HSZ.out]
                rw [← s3e, ← s2e, ← s1e]
                rfl
              clear er hr s1e s2e s3e
              go_wp2_with (first
              | (with_reducible show wpList _ _ _ (⟨_, .buildSlice 22 _ _, _, _, _, _⟩ :: _) _ _
                 refine wpList_lit1 rfl 22 9 _ (.string s3) rfl rfl (lit_str s3) ?_
                 intro w8 g8 hG8 hgr8 hge8
                 have hS8 := Lib.hid (hS.out.callee (below_grown hgr8)))
              | (at_builtin
                 refine wpList_pushS rfl _ _ rfl rfl hS8.out.o g8 1 s3 rfl hG8 (Nat.le_trans HLN.out (by decide)) hS8.out.be.size ?_
                 intro g9 cap9 w9 hO9 hgr9 hat9 hlt9
                 have hB9 := Lib.hid (hS8.out.be.grown hgr9 hS8.out.be.size (fun g hg => hS8.out.o.ge hg))))
              go_roundw
              case rel => exact ⟨i + 1, by omega, by omega, by go_num, by rw [hNX.out]; simpa [OwnS] using hO9, hB9.out⟩
              case measure => simp only [intOf]; omega
          · -- [12]
            as_aux_lemma =>
              subst hg
              have er := hr
              have ei := (Int.ofNat_tmod x0 16).symm
              rw [hr] at ei
              simp only [Int.cast_ofNat_Int] at ei
              obtain ⟨j5, hj5⟩ : ∃ q, x3 % 5 = q := ⟨_, rfl⟩
              have e5 : Int.tmod (x3 : Int) 5 = (j5 : Int) := by rw [← hj5]; exact (Int.ofNat_tmod x3 5).symm
              have c3 := hS.out.c3
              obtain ⟨kq, hkq⟩ : ∃ q, kB j5 = q := ⟨_, rfl⟩
              have HKQ : Hid (kB (x3 % 5) = kq) := by rw [Hid, hj5, hkq]
              have HIQ : Hid (∀ w', Below w.heap.size w w' → Calls Tryz.prog 44 #[.int .i64 (j5 : Int)] w' fun e w'' => e = .returned (.string kq) ∧ Below w'.heap.size w' w'') := fun w' hb => by
                rw [← hkq]
                exact itoa_any j5 (by omega) (HT.out.below hb).2
              have hkqz : kq.size ≤ 1000 := by
                rw [← hkq, kB, ← byts_len, byts_bstr]
                exact Nat.le_trans (dec_len j5 (by omega)) (by decide)
              have b5 : (j5 : Int) < 5 := by omega
              clear hj5 hkq e3
              obtain ⟨s1, s1e⟩ : ∃ q, (⟨#[99, 111, 117, 110, 116, 32]⟩ : ByteArray) ++ dr = q := ⟨_, rfl⟩
              have s1a : ∀ w', (Op.stringOp .add ⟨#[99, 111, 117, 110, 116, 32]⟩ dr).run Tryz.prog w' = .ok (.string s1) w' := fun w' => by rw [← s1e]; exact add_any _ _ (Nat.le_trans (show (⟨#[99, 111, 117, 110, 116, 32]⟩ : ByteArray).size ≤ 1000 by decide) (by decide)) (Nat.le_trans hdrz (by decide)) w'
              have hs1z : s1.size ≤ 1000 + 1000 := sz_add s1e (m := 1000) (show (⟨#[99, 111, 117, 110, 116, 32]⟩ : ByteArray).size ≤ 1000 by decide) hdrz
              obtain ⟨s2, s2e⟩ : ∃ q, s1 ++ (⟨#[32]⟩ : ByteArray) = q := ⟨_, rfl⟩
              have s2a : ∀ w', (Op.stringOp .add s1 ⟨#[32]⟩).run Tryz.prog w' = .ok (.string s2) w' := fun w' => by rw [← s2e]; exact add_any _ _ (Nat.le_trans hs1z (by decide)) (Nat.le_trans (show (⟨#[32]⟩ : ByteArray).size ≤ 1000 by decide) (by decide)) w'
              have hs2z : s2.size ≤ 2000 + 1000 := sz_add s2e (m := 2000) hs1z (show (⟨#[32]⟩ : ByteArray).size ≤ 1000 by decide)
              obtain ⟨s3, s3e⟩ : ∃ q, s2 ++ sz = q := ⟨_, rfl⟩
              have s3a : ∀ w', (Op.stringOp .add s2 sz).run Tryz.prog w' = .ok (.string s3) w' := fun w' => by rw [← s3e]; exact add_any _ _ (Nat.le_trans hs2z (by decide)) (Nat.le_trans hszz (by decide)) w'
              have hs3z : s3.size ≤ 3000 + 1000 := sz_add s3e (m := 3000) hs2z hszz
              obtain ⟨s4, s4e⟩ : ∃ q, s3 ++ (⟨#[32]⟩ : ByteArray) = q := ⟨_, rfl⟩
              have s4a : ∀ w', (Op.stringOp .add s3 ⟨#[32]⟩).run Tryz.prog w' = .ok (.string s4) w' := fun w' => by rw [← s4e]; exact add_any _ _ (Nat.le_trans hs3z (by decide)) (Nat.le_trans (show (⟨#[32]⟩ : ByteArray).size ≤ 1000 by decide) (by decide)) w'
              have hs4z : s4.size ≤ 4000 + 1000 := sz_add s4e (m := 4000) hs3z (show (⟨#[32]⟩ : ByteArray).size ≤ 1000 by decide)
              obtain ⟨s5, s5e⟩ : ∃ q, s4 ++ kq = q := ⟨_, rfl⟩
              have s5a : ∀ w', (Op.stringOp .add s4 kq).run Tryz.prog w' = .ok (.string s5) w' := fun w' => by rw [← s5e]; exact add_any _ _ (Nat.le_trans hs4z (by decide)) (Nat.le_trans hkqz (by decide)) w'
              have hs5z : s5.size ≤ 5000 + 1000 := sz_add s5e (m := 5000) hs4z hkqz
              have hNX : Hid (firstL ++ (qs.take (i + 1)).map (lineS u) = ls ++ [s5]) := by
                rw [Hid, next_line hqi.out HLS.out]
                congr 2
                unfold lineS
                simp only []
                rw [if_neg (by omega), if_neg (by omega), if_neg (by omega), if_neg (by omega), if_neg (by omega), if_pos (by omega)]
                rw [show drP ⟨x0, x1, x2, x3⟩ = dr from HDR.out, show szP ⟨x0, x1, x2, x3⟩ = sz from HSZ.out, HKQ.out]
                rw [← s5e, ← s4e, ← s3e, ← s2e, ← s1e]
                rfl
              clear er hr s1e s2e s3e s4e s5e
              go_wp2_with (first
              | (go_at_call 44; (with_reducible refine (HIQ.out _ hS.out.be).mono ?_); rintro e wi ⟨rfl, hbi⟩; have hSi := Lib.hid (hS.out.callee hbi); clear hbi)
              | (with_reducible show wpList _ _ _ (⟨_, .buildSlice 22 _ _, _, _, _, _⟩ :: _) _ _
                 refine wpList_lit1 rfl 22 9 _ (.string s5) rfl rfl (lit_str s5) ?_
                 intro w8 g8 hG8 hgr8 hge8
                 have hS8 := Lib.hid (hSi.out.callee (below_grown hgr8)))
              | (at_builtin
                 refine wpList_pushS rfl _ _ rfl rfl hS8.out.o g8 1 s5 rfl hG8 (Nat.le_trans HLN.out (by decide)) hS8.out.be.size ?_
                 intro g9 cap9 w9 hO9 hgr9 hat9 hlt9
                 have hB9 := Lib.hid (hS8.out.be.grown hgr9 hS8.out.be.size (fun g hg => hS8.out.o.ge hg))))
              go_roundw
              case rel => exact ⟨i + 1, by omega, by omega, by go_num, by rw [hNX.out]; simpa [OwnS] using hO9, hB9.out⟩
              case measure => simp only [intOf]; omega
          · -- [13]
            as_aux_lemma =>
              subst hg
              have er := hr
              have ei := (Int.ofNat_tmod x0 16).symm
              rw [hr] at ei
              simp only [Int.cast_ofNat_Int] at ei
              obtain ⟨s1, s1e⟩ : ∃ q, (⟨#[115, 104, 117, 116, 32]⟩ : ByteArray) ++ dr = q := ⟨_, rfl⟩
              have s1a : ∀ w', (Op.stringOp .add ⟨#[115, 104, 117, 116, 32]⟩ dr).run Tryz.prog w' = .ok (.string s1) w' := fun w' => by rw [← s1e]; exact add_any _ _ (Nat.le_trans (show (⟨#[115, 104, 117, 116, 32]⟩ : ByteArray).size ≤ 1000 by decide) (by decide)) (Nat.le_trans hdrz (by decide)) w'
              have hs1z : s1.size ≤ 1000 + 1000 := sz_add s1e (m := 1000) (show (⟨#[115, 104, 117, 116, 32]⟩ : ByteArray).size ≤ 1000 by decide) hdrz
              have hNX : Hid (firstL ++ (qs.take (i + 1)).map (lineS u) = ls ++ [s1]) := by
                rw [Hid, next_line hqi.out HLS.out]
                congr 2
                unfold lineS
                simp only []
                rw [if_neg (by omega), if_neg (by omega), if_neg (by omega), if_neg (by omega), if_neg (by omega), if_neg (by omega), if_pos (by omega)]
                rw [show drP ⟨x0, x1, x2, x3⟩ = dr from HDR.out]
                rw [← s1e]
              clear er hr s1e
              go_wp2_with (first
              | (with_reducible show wpList _ _ _ (⟨_, .buildSlice 22 _ _, _, _, _, _⟩ :: _) _ _
                 refine wpList_lit1 rfl 22 9 _ (.string s1) rfl rfl (lit_str s1) ?_
                 intro w8 g8 hG8 hgr8 hge8
                 have hS8 := Lib.hid (hS.out.callee (below_grown hgr8)))
              | (at_builtin
                 refine wpList_pushS rfl _ _ rfl rfl hS8.out.o g8 1 s1 rfl hG8 (Nat.le_trans HLN.out (by decide)) hS8.out.be.size ?_
                 intro g9 cap9 w9 hO9 hgr9 hat9 hlt9
                 have hB9 := Lib.hid (hS8.out.be.grown hgr9 hS8.out.be.size (fun g hg => hS8.out.o.ge hg))))
              go_roundw
              case rel => exact ⟨i + 1, by omega, by omega, by go_num, by rw [hNX.out]; simpa [OwnS] using hO9, hB9.out⟩
              case measure => simp only [intOf]; omega
          · -- [14]
            as_aux_lemma =>
              subst hg
              have er := hr
              have ei := (Int.ofNat_tmod x0 16).symm
              rw [hr] at ei
              simp only [Int.cast_ofNat_Int] at ei
              obtain ⟨s1, s1e⟩ : ∃ q, (⟨#[111, 112, 101, 110, 32]⟩ : ByteArray) ++ dr = q := ⟨_, rfl⟩
              have s1a : ∀ w', (Op.stringOp .add ⟨#[111, 112, 101, 110, 32]⟩ dr).run Tryz.prog w' = .ok (.string s1) w' := fun w' => by rw [← s1e]; exact add_any _ _ (Nat.le_trans (show (⟨#[111, 112, 101, 110, 32]⟩ : ByteArray).size ≤ 1000 by decide) (by decide)) (Nat.le_trans hdrz (by decide)) w'
              have hs1z : s1.size ≤ 1000 + 1000 := sz_add s1e (m := 1000) (show (⟨#[111, 112, 101, 110, 32]⟩ : ByteArray).size ≤ 1000 by decide) hdrz
              have hNX : Hid (firstL ++ (qs.take (i + 1)).map (lineS u) = ls ++ [s1]) := by
                rw [Hid, next_line hqi.out HLS.out]
                congr 2
                unfold lineS
                simp only []
                rw [if_neg (by omega), if_neg (by omega), if_neg (by omega), if_neg (by omega), if_neg (by omega), if_neg (by omega), if_neg (by omega), if_pos (by omega)]
                rw [show drP ⟨x0, x1, x2, x3⟩ = dr from HDR.out]
                rw [← s1e]
              clear er hr s1e
              go_wp2_with (first
              | (with_reducible show wpList _ _ _ (⟨_, .buildSlice 22 _ _, _, _, _, _⟩ :: _) _ _
                 refine wpList_lit1 rfl 22 9 _ (.string s1) rfl rfl (lit_str s1) ?_
                 intro w8 g8 hG8 hgr8 hge8
                 have hS8 := Lib.hid (hS.out.callee (below_grown hgr8)))
              | (at_builtin
                 refine wpList_pushS rfl _ _ rfl rfl hS8.out.o g8 1 s1 rfl hG8 (Nat.le_trans HLN.out (by decide)) hS8.out.be.size ?_
                 intro g9 cap9 w9 hO9 hgr9 hat9 hlt9
                 have hB9 := Lib.hid (hS8.out.be.grown hgr9 hS8.out.be.size (fun g hg => hS8.out.o.ge hg))))
              go_roundw
              case rel => exact ⟨i + 1, by omega, by omega, by go_num, by rw [hNX.out]; simpa [OwnS] using hO9, hB9.out⟩
              case measure => simp only [intOf]; omega
          · -- [15]
            as_aux_lemma =>
              subst hg
              have er := hr
              have ei := (Int.ofNat_tmod x0 16).symm
              rw [hr] at ei
              simp only [Int.cast_ofNat_Int] at ei
              cases u with
              | true =>
                have hNX : Hid (firstL ++ (qs.take (i + 1)).map (lineS true) = ls ++ [⟨#[117, 110, 100, 111]⟩]) := by
                  rw [Hid, next_line hqi.out HLS.out]
                  congr 2
                  unfold lineS
                  simp only []
                  rw [if_neg (by omega), if_neg (by omega), if_neg (by omega), if_neg (by omega), if_neg (by omega), if_neg (by omega), if_neg (by omega), if_neg (by omega), if_pos trivial]
                  rfl
                clear er hr
                go_wp2_with (first
              | (with_reducible show wpList _ _ _ (⟨_, .buildSlice 22 _ _, _, _, _, _⟩ :: _) _ _
                 refine wpList_lit1 rfl 22 9 _ (.string ⟨#[117, 110, 100, 111]⟩) rfl rfl (lit_str ⟨#[117, 110, 100, 111]⟩) ?_
                 intro w8 g8 hG8 hgr8 hge8
                 have hS8 := Lib.hid (hS.out.callee (below_grown hgr8)))
              | (at_builtin
                 refine wpList_pushS rfl _ _ rfl rfl hS8.out.o g8 1 ⟨#[117, 110, 100, 111]⟩ rfl hG8 (Nat.le_trans HLN.out (by decide)) hS8.out.be.size ?_
                 intro g9 cap9 w9 hO9 hgr9 hat9 hlt9
                 have hB9 := Lib.hid (hS8.out.be.grown hgr9 hS8.out.be.size (fun g hg => hS8.out.o.ge hg))))
                go_roundw
                case rel => exact ⟨i + 1, by omega, by omega, by go_num, by rw [hNX.out]; simpa [OwnS] using hO9, hB9.out⟩
                case measure => simp only [intOf]; omega
              | false =>
                obtain ⟨d4, hd4⟩ : ∃ q, oneP othersL x3 = q := ⟨_, rfl⟩
                have HD4 := Lib.hid hd4
                have hd4z : d4.size ≤ 1000 := by rw [← hd4]; exact one_short (by decide) _
                clear hd4 e3 e4 hw3
                obtain ⟨s1, s1e⟩ : ∃ q, (⟨#[100, 114, 97, 119, 101, 114, 32]⟩ : ByteArray) ++ d4 = q := ⟨_, rfl⟩
                have s1a : ∀ w', (Op.stringOp .add ⟨#[100, 114, 97, 119, 101, 114, 32]⟩ d4).run Tryz.prog w' = .ok (.string s1) w' := fun w' => by rw [← s1e]; exact add_any _ _ (Nat.le_trans (show (⟨#[100, 114, 97, 119, 101, 114, 32]⟩ : ByteArray).size ≤ 1000 by decide) (by decide)) (Nat.le_trans hd4z (by decide)) w'
                have hs1z : s1.size ≤ 1000 + 1000 := sz_add s1e (m := 1000) (show (⟨#[100, 114, 97, 119, 101, 114, 32]⟩ : ByteArray).size ≤ 1000 by decide) hd4z
                have hNX : Hid (firstL ++ (qs.take (i + 1)).map (lineS false) = ls ++ [s1]) := by
                  rw [Hid, next_line hqi.out HLS.out]
                  congr 2
                  unfold lineS
                  simp only []
                  rw [if_neg (by omega), if_neg (by omega), if_neg (by omega), if_neg (by omega), if_neg (by omega), if_neg (by omega), if_neg (by omega), if_neg (by omega), if_neg (by decide)]
                  rw [HD4.out]
                  rw [← s1e]
                clear er hr s1e
                go_wp2_with (fail)
                refine De.region_tree (fun b w' => bif b then (True) else (w'.cell? ⟨g5, 3, none⟩ = some (.int .u8 (x3 : Int)) ∧ True)) 8 5 (by kernel_rfl) (by kernel_rfl) (by decide) ⟨hS.out.c3, trivial⟩ ?_
                (try simp only [Act.put, De.l0, De.l1, De.l2])
                refine De.MidT.read (o := ?o135) (v := ?v135) 0 (by decide) ?q135 (by kernel_rfl) (by kernel_rfl) ?w135 (by kernel_rfl) ?y135 ?h135
                case q135 => (simp only [De.g0, De.g1, De.g2]; rfl)
                case w135 => kernel_rfl
                case y135 => (intro w' hw'; obtain ⟨y1, _⟩ := hw'; go_simp; (try with_reducible rfl))
                (try simp only [Act.put, De.l0, De.l1, De.l2])
                refine De.MidT.read (o := ?o136) (v := ?v136) 3 (by decide) ?q136 (by kernel_rfl) (by kernel_rfl) ?w136 (by kernel_rfl) ?y136 ?h136
                case q136 => (simp only [De.g0, De.g1, De.g2]; rfl)
                case w136 => kernel_rfl
                case y136 => (intro w' hw'; obtain ⟨y1, _⟩ := hw'; go_simp; (try with_reducible rfl))
                (try simp only [Act.put, De.l0, De.l1, De.l2])
                refine De.MidT.read (o := ?o137) (v := ?v137) 4 (by decide) ?q137 (by kernel_rfl) (by kernel_rfl) ?w137 (by kernel_rfl) ?y137 ?h137
                case q137 => (simp only [De.g0, De.g1, De.g2]; rfl)
                case w137 => kernel_rfl
                case y137 => (intro w' hw'; obtain ⟨y1, _⟩ := hw'; go_simp; (try with_reducible rfl))
                (try simp only [Act.put, De.l0, De.l1, De.l2])
                (try refine De.MidT.tail ?_)
                refine De.Tr.one (i := 1) (o := ?o138) (by kernel_rfl) ?q138 ?g138 ?h138
                case q138 => (simp only [De.g0, De.g1, De.g2]; rfl)
                case g138 => rfl
                refine wp_lit2 22 9 _ _ (.string ⟨#[109, 97, 114, 97, 98, 111, 117]⟩) (.string ⟨#[101, 103, 114, 101, 116]⟩) rfl rfl rfl (lit_str2 _ _) ?_
                intro wl gl hGl hgrl hgel
                have hSl := Lib.hid (hS.out.drew.callee (below_grown hgrl))
                refine ⟨⟨_, rfl⟩, ⟨hSl.out.c3, trivial⟩, ?_⟩
                (try simp only [Act.put, De.l0, De.l1, De.l2])
                (try refine De.MidT.tail ?_)
                refine De.Tr.one (i := 2) (o := ?o139) (by kernel_rfl) ?q139 ?g139 ?h139
                case q139 => (simp only [De.g0, De.g1, De.g2]; rfl)
                case g139 => rfl
                refine wp_enterK 53 #[.slice (some ⟨gl, 0, none⟩) 2 2] (by go_simp) (list_same _ _) ?_
                rintro e wq ⟨rfl, hw⟩
                replace hw := hw.symm
                subst hw
                refine ⟨_, rfl, ⟨_, rfl⟩, ⟨hSl.out.c3, trivial⟩, ?_⟩
                (try simp only [Act.put, De.l0, De.l1, De.l2])
                (try refine De.MidT.tail ?_)
                refine De.Tr.one (i := 5) (o := ?o140) (by kernel_rfl) ?q140 ?g140 ?h140
                case q140 => (simp only [De.g0, De.g1, De.g2]; rfl)
                case g140 => rfl
                refine wp_enterK 39 #[.slice (some ⟨gl, 0, none⟩) 2 2, .int .u8 (x3 : Int)] (by go_simp) (one_any (some ⟨gl, 0, none⟩) 2 2 othersL (rstrs_blk hGl rfl) (by decide) (by decide) x3 l3) ?_
                rintro e wq ⟨rfl, hw⟩
                replace hw := hw.symm
                subst hw
                rw [HD4.out]
                refine ⟨_, rfl, ⟨_, rfl⟩, ⟨hSl.out.c3, trivial⟩, ?_⟩
                (try simp only [Act.put, De.l0, De.l1, De.l2])
                refine De.MidT.read (o := ?o141) (v := ?v141) 6 (by decide) ?q141 (by kernel_rfl) (by kernel_rfl) ?w141 (by kernel_rfl) ?y141 ?h141
                case q141 => (simp only [De.g0, De.g1, De.g2]; rfl)
                case w141 => kernel_rfl
                case y141 => (intro w' hw'; obtain ⟨y1, _⟩ := hw'; go_simp; (try with_reducible rfl))
                (try simp only [Act.put, De.l0, De.l1, De.l2])
                (try refine De.MidT.tail ?_)
                refine De.Tr.one (i := 7) (o := ?o142) (by kernel_rfl) ?q142 ?g142 ?h142
                case q142 => (simp only [De.g0, De.g1, De.g2]; rfl)
                case g142 => rfl
                refine wp_lit1 22 9 _ (.string s1) rfl rfl (lit_str s1) ?_
                intro w8 g8 hG8 hgr8 hge8
                have hS8 := Lib.hid (hSl.out.callee (below_grown hgr8))
                refine ⟨⟨_, rfl⟩, ⟨hS8.out.c3, trivial⟩, ?_⟩
                (try simp only [Act.put, De.l0, De.l1, De.l2])
                (try refine De.MidT.tail ?_)
                refine De.Tr.one (i := 8) (o := ?o143) (by kernel_rfl) ?q143 ?g143 ?h143
                case q143 => (simp only [De.g0, De.g1, De.g2]; rfl)
                case g143 => rfl
                refine wp_pushS _ _ rfl rfl hS8.out.o g8 1 s1 rfl hG8 (Nat.le_trans HLN.out (by decide)) hS8.out.be.size ?_
                intro g9 cap9 w9 hO9 hgr9 hat9 hlt9
                have hB9 := Lib.hid (hS8.out.be.grown hgr9 hS8.out.be.size (fun g hg => hS8.out.o.ge hg))
                refine ⟨⟨_, rfl⟩, trivial, ?_⟩
                (try simp only [Act.put, De.l0, De.l1, De.l2])
                refine De.MidT.read2 (o := ?o144) (v := ?v144) 9 (by decide) ?q144 (by kernel_rfl) (by kernel_rfl) ?w144 ?y144 ?h144
                case q144 => (simp only [De.g0, De.g1, De.g2]; rfl)
                case w144 => kernel_rfl
                case y144 => (intro b w' hw'; clear hw'; go_simp; (try with_reducible rfl))
                (try simp only [Act.put, De.l0, De.l1, De.l2])
                (try refine De.MidT.tail ?_)
                refine De.Tr.done (by kernel_rfl) ?_
                (try simp only [Act.put, De.l0, De.l1, De.l2])
                go_wp2_with (fail)
                go_roundw
                case rel => exact ⟨i + 1, by omega, by omega, by go_num, by rw [hNX.out]; simpa [OwnS] using hO9, hB9.out⟩
                case measure => simp only [intOf]; omega
      · have h24i : (24 : Int) ≤ i := by omega
        obtain rfl : i = 24 := by omega
        have HE : Hid (OwnS wr w.heap.size u5 (seasonL u qs)) := hO
        have HBE := Lib.hid hB
        clear hO hB
        go_wp2_with (first
          | (with_reducible show wpList _ _ _ (⟨_, .load 114 _, _, _, _, _⟩ :: _) _ _
             refine wpList_load_mid rfl 114 _ rfl b (o + 24 * 4) rfl _ _ hr Tryz.underlying114 rfl (by kernel_rfl) ?_))
        go_ret
        have hb5 := (Below.refl wr.heap.size wr).alloc (Nat.le_refl _) (.cells #[.int .u8 (x0 : Int), .int .u8 (x1 : Int), .int .u8 (x2 : Int), .int .u8 (x3 : Int)] 114)
        exact ⟨_, rfl, ownS_mono0 (HE.out.callee hb5), fun g hg => HE.out.ge (by rw [own_blkS (ownS_mono0 HE.out)]; exact hg), HBE.out.trans (hb5.mono HBE.out.size)⟩
    · obtain rfl : i = n := by omega
      have hlti : ¬ (i : Int) < i := by omega
      have HE : Hid (OwnS wr w.heap.size u5 (seasonL u qs)) := by
        have hl : qs.length = i := HQ.out.1
        rw [Hid, seasonL, List.take_of_length_le (by omega)]
        rwa [List.take_of_length_le (by omega)] at hO
      have HBE := Lib.hid hB
      clear hO hB
      go_wp2_with (fail)
      go_ret
      exact ⟨_, rfl, ownS_mono0 HE.out, fun g hg => HE.out.ge (by rw [own_blkS (ownS_mono0 HE.out)]; exact hg), HBE.out⟩
end
end Dr
end Go.Proofs.YtbgakdpbglpfaaaGreatDoor
