/- The lines of a season, walked. -/
import Derived.Test.YtbgakdpbglpfaaaGreatDoorDuE
import Derived.IntWalk
namespace Go.Proofs.YtbgakdpbglpfaaaGreatDoor
open Go.RowKit
namespace Dr
set_option linter.unusedSimpArgs false
section
variable {P : Program} {w : World} {o : Oper} {a : Act} {K : Act → World → Prop} {Q : Exit → Act → World → Prop}
/-- a slice literal of two, of four constants -/
theorem wp_lit2 (ty : TypeId) (et : TypeId) (x y : Operand) (u v : Value) (ho : o.op = .buildSlice ty 2 #[(0, x), (1, y)]) (hx : a.eval x = u) (hy : a.eval y = v)
    (hr : ∀ w : World, (Instr.buildSlice ty 2 #[(0, u), (1, v)]).run P w = .ok (.slice (some ⟨w.heap.size, 0, none⟩) 2 2) (w.alloc (.cells #[u, v] et)))
    (h : ∀ (w' : World) (g : Nat), Blk w' g et #[u, v] → w.grownBy w' none → w.heap.size ≤ g → K (a.put o.dst (.slice (some ⟨g, 0, none⟩) 2 2)) w') : o.wp P a w K Q := by
  have hh := h (w.alloc (.cells #[u, v] et)) w.heap.size (Blk.new _ _ _) (World.grownBy_alloc w _ none) (Nat.le_refl _)
  unfold Oper.wp execOp
  simp only [ho, List.map_toArray, List.map_cons, List.map_nil, hx, hy, Sem.run_bind, hr w, Result.andThen_ok, Sem.run_pure, Oper.upon_value]
  exact hh
theorem wp_lit4 (ty : TypeId) (et : TypeId) (x1 x2 x3 x4 : Operand) (u1 u2 u3 u4 : Value) (ho : o.op = .buildSlice ty 4 #[(0, x1), (1, x2), (2, x3), (3, x4)]) (h1 : a.eval x1 = u1) (h2 : a.eval x2 = u2) (h3 : a.eval x3 = u3) (h4 : a.eval x4 = u4)
    (hr : ∀ w : World, (Instr.buildSlice ty 4 #[(0, u1), (1, u2), (2, u3), (3, u4)]).run P w = .ok (.slice (some ⟨w.heap.size, 0, none⟩) 4 4) (w.alloc (.cells #[u1, u2, u3, u4] et)))
    (h : ∀ (w' : World) (g : Nat), Blk w' g et #[u1, u2, u3, u4] → w.grownBy w' none → w.heap.size ≤ g → K (a.put o.dst (.slice (some ⟨g, 0, none⟩) 4 4)) w') : o.wp P a w K Q := by
  have hh := h (w.alloc (.cells #[u1, u2, u3, u4] et)) w.heap.size (Blk.new _ _ _) (World.grownBy_alloc w _ none) (Nat.le_refl _)
  unfold Oper.wp execOp
  simp only [ho, List.map_toArray, List.map_cons, List.map_nil, h1, h2, h3, h4, Sem.run_bind, hr w, Result.andThen_ok, Sem.run_pure, Oper.upon_value]
  exact hh
end
theorem lit_str2 (s t : ByteArray) (w : World) : (Instr.buildSlice 22 2 #[(0, .string s), (1, .string t)]).run Tryz.prog w = .ok (.slice (some ⟨w.heap.size, 0, none⟩) 2 2) (w.alloc (.cells #[.string s, .string t] 9)) := by
  go_simp
theorem lit_str4 (s t s' t' : ByteArray) (w : World) : (Instr.buildSlice 22 4 #[(0, .string s), (1, .string t), (2, .string s'), (3, .string t')]).run Tryz.prog w = .ok (.slice (some ⟨w.heap.size, 0, none⟩) 4 4) (w.alloc (.cells #[.string s, .string t, .string s', .string t'] 9)) := by
  go_simp
theorem zero_quad (w : World) : (zeroValue 114).run Tryz.prog w = .ok (.agg #[.int .u8 0, .int .u8 0, .int .u8 0, .int .u8 0]) w := Tryz.zeroValue114 w
theorem add_any (x y : ByteArray) (hx : x.size ≤ 10000) (hy : y.size ≤ 10000) (w : World) : (Op.stringOp .add x y).run Tryz.prog w = .ok (.string (x ++ y)) w := run_string_add w x y (by omega) (by omega)
theorem sz_add {x y q : ByteArray} {m : Nat} (e : x ++ y = q) (hx : x.size ≤ m) (hy : y.size ≤ 1000) : q.size ≤ m + 1000 := by
  rw [← e, ByteArray.size_append]
  omega
theorem next_line {qs : List Quad} {i : Nat} {u : Bool} {q : Quad} {ls : List ByteArray} (h : qs[i]? = some q) (hl : firstL ++ (qs.take i).map (lineS u) = ls) : firstL ++ (qs.take (i + 1)).map (lineS u) = ls ++ [lineS u q] := by
  rw [List.take_add_one, h, Option.toList_some, List.map_append, ← List.append_assoc, hl]
  rfl
/-- ways that meet again: what an operation leaves is told once (x holds a block's number that is made on the way) -/
theorem two_ways {K : Act → World → Prop} {S : World → Prop} {G : Prop} (x : Nat → Act) (main : (∀ g w, S w → K (x g) w) → G) (later : ∀ g w, S w → K (x g) w) : G := main later
/-- a line by numbers in its block, the row of lines so far -/
structure Sea (wb w : World) (g : Nat) (x0 x1 x2 x3 : Nat) (v : Value) (ls : List ByteArray) : Prop where
  x : Blk w g 114 #[.int .u8 (x0 : Int), .int .u8 (x1 : Int), .int .u8 (x2 : Int), .int .u8 (x3 : Int)]
  o : OwnS w wb.heap.size v ls
  be : Below wb.heap.size wb w
section
variable {wb w w' : World} {g x0 x1 x2 x3 : Nat} {v : Value} {ls : List ByteArray}
theorem Sea.callee (h : Sea wb w g x0 x1 x2 x3 v ls) (hb : Below w.heap.size w w') : Sea wb w' g x0 x1 x2 x3 v ls :=
  ⟨h.x.callee hb, h.o.callee hb, h.be.trans (hb.mono h.be.size)⟩
theorem Sea.drew (h : Sea wb w g x0 x1 x2 x3 v ls) : Sea wb w.drew g x0 x1 x2 x3 v ls := h.callee (Below.refl _ _).drew
theorem Sea.c0 (h : Sea wb w g x0 x1 x2 x3 v ls) : w.cell? ⟨g, 0, none⟩ = some (.int .u8 (x0 : Int)) := h.x.at_ 0 rfl
theorem Sea.c1 (h : Sea wb w g x0 x1 x2 x3 v ls) : w.cell? ⟨g, 1, none⟩ = some (.int .u8 (x1 : Int)) := h.x.at_ 1 rfl
theorem Sea.c2 (h : Sea wb w g x0 x1 x2 x3 v ls) : w.cell? ⟨g, 2, none⟩ = some (.int .u8 (x2 : Int)) := h.x.at_ 2 rfl
theorem Sea.c3 (h : Sea wb w g x0 x1 x2 x3 v ls) : w.cell? ⟨g, 3, none⟩ = some (.int .u8 (x3 : Int)) := h.x.at_ 3 rfl
set_option maxRecDepth 100000 in
set_option maxHeartbeats 40000000 in
theorem season_any (T : Tabs w) (P : Option Addr) (n c : Nat) (qs : List Quad) (hq : RQuads w w.heap.size P n qs) (hn : n ≤ maxLen) (u : Bool) :
    Calls Tryz.prog 37 #[.slice P n c, .bool u] w fun e w' => ∃ v, e = .returned v ∧ OwnT w' v (seasonL u qs) ∧ (∀ g, blkOf v = some g → w.heap.size ≤ g) ∧ Below w.heap.size w w' := by
  have HT := Lib.hid T
  have HQ := Lib.hid hq
  unfold maxLen at hn
  clear T hq
  go_enter Tryz.func37, Tryz.ntmps37
  go_wp2_with (go_at_call 53; (with_reducible refine (list_same _ _).mono ?_); rintro e w3 ⟨rfl, hw3⟩; replace hw3 := hw3.symm; subst hw3)
  have hO0 : OwnS (w.alloc (.cells (strsV firstL).toArray 9)) w.heap.size (.slice (some ⟨w.heap.size, 0, none⟩) 6 6) firstL := World.ownsRow_lit w (strsV firstL).toArray 6 (Nat.le_refl _) (by decide) rfl
  have hB0 : Below w.heap.size w (w.alloc (.cells (strsV firstL).toArray 9)) := (Below.refl _ _).alloc (Nat.le_refl _) _
  go_loopw [5, 16] (fun o v wr => ∃ i : Nat, i ≤ n ∧ i ≤ 24 ∧ v = .int .i64 i ∧ OwnS wr w.heap.size o (firstL ++ (qs.take i).map (lineS u)) ∧ Below w.heap.size w wr) (fun _ v _ => n - (intOf v).toNat)
  case atStart => exact ⟨0, Nat.zero_le _, Nat.zero_le _, rfl, hO0, hB0⟩
  case round =>
    obtain ⟨i, hi, hi24, rfl, hO, hB⟩ := hrel
    clear hO0 hB0
    by_cases hlt : i < n
    · have hlti : (i : Int) < n := by omega
      have hi0 : (0 : Int) ≤ i := by omega
      obtain ⟨b, o, ⟨x0, x1, x2, x3⟩, rfl, _, hr, ⟨l0, l1, l2, l3⟩, hqi⟩ := (HQ.out.later hB).at_ hlt
      simp only [Quad.vals] at hr
      by_cases h24 : i < 24
      · have h24i : ¬ (24 : Int) ≤ i := by omega
        go_wp2_with (first
          | (with_reducible show wpList _ _ _ (⟨_, .load 114 _, _, _, _, _⟩ :: _) _ _
             refine wpList_load_mid rfl 114 _ rfl b (o + i * 4) rfl _ _ hr Tryz.underlying114 rfl (by kernel_rfl) ?_))
        obtain ⟨w5, hw5⟩ : ∃ q, wr.alloc (.cells #[.int .u8 (x0 : Int), .int .u8 (x1 : Int), .int .u8 (x2 : Int), .int .u8 (x3 : Int)] 114) = q := ⟨_, rfl⟩
        obtain ⟨g5, hg5⟩ : ∃ q, wr.heap.size = q := ⟨_, rfl⟩
        obtain ⟨ls, hls⟩ : ∃ q, firstL ++ (qs.take i).map (lineS u) = q := ⟨_, rfl⟩
        rw [hls] at hO
        have hb5 : Below wr.heap.size wr w5 := by rw [← hw5]; exact (Below.refl _ _).alloc (Nat.le_refl _) _
        have hS : Hid (Sea w w5 g5 x0 x1 x2 x3 u5 ls) := ⟨by rw [← hw5, ← hg5]; exact Blk.new _ _ _, hO.callee hb5, hB.trans (hb5.mono hB.size)⟩
        have HLS := Lib.hid hls
        rw [hw5, hg5]
        clear hw5 hb5 hO hB hr hls
        refine De.region_tree (fun b w' => bif b then (True) else (w'.cell? ⟨g5, 1, none⟩ = some (.int .u8 (x1 : Int)) ∧ True)) 7 4 (by kernel_rfl) (by kernel_rfl) (by decide) ⟨hS.out.c1, trivial⟩ ?_
        (try simp only [Act.put, De.l0, De.l1, De.l2])
        refine De.MidT.read 1 (by decide) (by simp only [De.g0, De.g1, De.g2]; rfl) (by kernel_rfl) (by kernel_rfl) (by kernel_rfl) (by kernel_rfl) (by intro w' hw'; obtain ⟨y1, _⟩ := hw'; go_simp; (try with_reducible rfl)) ?_
        (try simp only [Act.put, De.l0, De.l1, De.l2])
        refine De.MidT.read 2 (by decide) (by simp only [De.g0, De.g1, De.g2]; rfl) (by kernel_rfl) (by kernel_rfl) (by kernel_rfl) (by kernel_rfl) (by intro w' hw'; obtain ⟨y1, _⟩ := hw'; go_simp; (try with_reducible rfl)) ?_
        (try simp only [Act.put, De.l0, De.l1, De.l2])
        refine De.MidT.read 5 (by decide) (by simp only [De.g0, De.g1, De.g2]; rfl) (by kernel_rfl) (by kernel_rfl) (by kernel_rfl) (by kernel_rfl) (by intro w' hw'; obtain ⟨y1, _⟩ := hw'; go_simp; (try with_reducible rfl)) ?_
        (try simp only [Act.put, De.l0, De.l1, De.l2])
        refine De.MidT.read 6 (by decide) (by simp only [De.g0, De.g1, De.g2]; rfl) (by kernel_rfl) (by kernel_rfl) (by kernel_rfl) (by kernel_rfl) (by intro w' hw'; obtain ⟨y1, _⟩ := hw'; go_simp; (try with_reducible rfl)) ?_
        (try simp only [Act.put, De.l0, De.l1, De.l2])
        (try refine De.MidT.tail ?_)
        refine De.Tr.one (i := 0) (by kernel_rfl) (by simp only [De.g0, De.g1, De.g2]; rfl) (by rfl) ?_
        refine wp_enterK 40 #[] (by go_simp) (drawers_list _) ?_
        rintro e wa ⟨ada, rfl, hra, hba⟩
        have hSa := Lib.hid (hS.out.drew.callee hba)
        refine ⟨_, rfl, ⟨_, rfl⟩, ⟨hSa.out.c1, trivial⟩, ?_⟩
        (try simp only [Act.put, De.l0, De.l1, De.l2])
        (try refine De.MidT.tail ?_)
        refine De.Tr.one (i := 3) (by kernel_rfl) (by simp only [De.g0, De.g1, De.g2]; rfl) (by rfl) ?_
        refine wp_enterK 39 #[.slice (some ada) 2 2, .int .u8 (x1 : Int)] (by go_simp) (one_any (some ada) 2 2 drawersL hra (by decide) (by decide) x1 l1) ?_
        rintro e wq ⟨rfl, hw⟩
        replace hw := hw.symm
        subst hw
        refine ⟨_, rfl, ⟨_, rfl⟩, ⟨hSa.out.c1, trivial⟩, ?_⟩
        (try simp only [Act.put, De.l0, De.l1, De.l2])
        (try refine De.MidT.tail ?_)
        refine De.Tr.one (i := 4) (by kernel_rfl) (by simp only [De.g0, De.g1, De.g2]; rfl) (by rfl) ?_
        refine wp_enterK 52 #[] (by go_simp) (orders_list _) ?_
        rintro e wb ⟨adb, rfl, hrb, hbb⟩
        have hSb := Lib.hid (hSa.out.callee hbb)
        refine ⟨_, rfl, ⟨_, rfl⟩, ⟨hSb.out.c1, trivial⟩, ?_⟩
        (try simp only [Act.put, De.l0, De.l1, De.l2])
        (try refine De.MidT.tail ?_)
        refine De.Tr.one (i := 7) (by kernel_rfl) (by simp only [De.g0, De.g1, De.g2]; rfl) (by rfl) ?_
        refine wp_enterK 39 #[.slice (some adb) 5 5, .int .u8 (x1 : Int)] (by go_simp) (one_any (some adb) 5 5 ordersL hrb (by decide) (by decide) x1 l1) ?_
        rintro e wq ⟨rfl, hw⟩
        replace hw := hw.symm
        subst hw
        refine ⟨_, rfl, ⟨_, rfl⟩, trivial, ?_⟩
        (try simp only [Act.put, De.l0, De.l1, De.l2])
        refine De.MidT.read2 8 (by decide) (by simp only [De.g0, De.g1, De.g2]; rfl) (by kernel_rfl) (by kernel_rfl) (by kernel_rfl) (by intro b w' hw'; clear hw'; go_simp; (try with_reducible rfl)) ?_
        (try simp only [Act.put, De.l0, De.l1, De.l2])
        refine De.MidT.read2 9 (by decide) (by simp only [De.g0, De.g1, De.g2]; rfl) (by kernel_rfl) (by kernel_rfl) (by kernel_rfl) (by intro b w' hw'; clear hw'; go_simp; (try with_reducible rfl)) ?_
        (try simp only [Act.put, De.l0, De.l1, De.l2])
        (try refine De.MidT.tail ?_)
        refine De.Tr.done (by kernel_rfl) ?_
        (try simp only [Act.put, De.l0, De.l1, De.l2])
        obtain ⟨dr, hdr⟩ : ∃ q, oneP drawersL x1 = q := ⟨_, rfl⟩
        obtain ⟨od, hod⟩ : ∃ q, oneP ordersL x1 = q := ⟨_, rfl⟩
        have HDR := Lib.hid hdr
        have HOD := Lib.hid hod
        rw [hdr, hod]
        have hdrz : dr.size ≤ 1000 := by rw [← hdr]; exact one_short (by decide) _
        have hodz : od.size ≤ 1000 := by rw [← hod]; exact one_short (by decide) _
        clear hdr hod hSa hra hba hrb hbb hS
        obtain ⟨j2, hj2⟩ : ∃ q, x2 % 4 = q := ⟨_, rfl⟩
        obtain ⟨j3, hj3⟩ : ∃ q, x3 % 4 = q := ⟨_, rfl⟩
        have e2 : Int.tmod (x2 : Int) 4 = (j2 : Int) := by rw [← hj2]; exact (Int.ofNat_tmod x2 4).symm
        have e3 : Int.tmod (x3 : Int) 4 = (j3 : Int) := by rw [← hj3]; exact (Int.ofNat_tmod x3 4).symm
        have b2 : (j2 : Int) < 4 := by omega
        have b3 : (0 : Int) ≤ j2 := by omega
        obtain ⟨k3, hk3⟩ : ∃ q, 1 + j3 = q := ⟨_, rfl⟩
        have e4 : (1 : Int) + (j3 : Int) = (k3 : Int) := by omega
        have hw3 : IntKind.i64.wrap (k3 : Int) = k3 := IntWalk.i64_in _ (by omega)
        obtain ⟨sz, hsz⟩ : ∃ q, sizesL[j2]? = some q := ⟨_, List.getElem?_eq_getElem (by show j2 < 4; omega)⟩
        have HSZ : Hid (szP ⟨x0, x1, x2, x3⟩ = sz) := by
          rw [Hid, szP, List.getD_eq_getElem?_getD, hj2, hsz]
          rfl
        have hszz : sz.size ≤ 1000 := by
          rw [← HSZ.out, szP, List.getD_eq_getElem?_getD]
          cases hq : sizesL[x2 % 4]? with
          | none => exact Nat.zero_le _
          | some s => exact (show ∀ s ∈ sizesL, s.size ≤ 1000 by decide) s (List.mem_of_getElem? hq)
        obtain ⟨kb, hkb⟩ : ∃ q, kB k3 = q := ⟨_, rfl⟩
        have HKB : Hid (kB (1 + x3 % 4) = kb) := by rw [Hid, hj3, hk3, hkb]
        have HIT : Hid (∀ w', Below w.heap.size w w' → Calls Tryz.prog 44 #[.int .i64 (k3 : Int)] w' fun e w'' => e = .returned (.string kb) ∧ Below w'.heap.size w' w'') := fun w' hb => by
          rw [← hkb]
          exact itoa_any k3 (by omega) (HT.out.below hb).2
        have hkbz : kb.size ≤ 1000 := by
          rw [← hkb, kB, ← byts_len, byts_bstr]
          exact Nat.le_trans (dec_len k3 (by omega)) (by decide)
        clear hj2 hj3 hk3 hkb
        have hszi : (strsV sizesL).toArray[j2]? = some (.string sz) := by rw [List.getElem?_toArray, strsV, List.getElem?_map, hsz]; rfl
        have HSI := Lib.hid hszi
        clear hsz hszi
        go_wp2_with (fail)
        rename_i K7 a7
        have hwx : IntKind.i64.wrap (x3 : Int) = x3 := IntWalk.i64_in _ (by omega)
        have m2 : (0 : Int) ≤ x2 := by omega
        have m3 : (0 : Int) ≤ x3 := by omega
        have m2' : (x2 : Int) < 256 := by omega
        have m3' : (x3 : Int) < 256 := by omega
        apply two_ways (K := K7) (S := fun w6 => Sea w w6 g5 x0 x1 x2 x3 u5 ls)
        case main =>
          intro hk7
          refine De.region_tree (fun b w' => bif b then (w'.cell? ⟨g5, 2, none⟩ = some (.int .u8 (x2 : Int)) ∧ w'.cell? ⟨g5, 3, none⟩ = some (.int .u8 (x3 : Int))) else (w'.cell? ⟨g5, 2, none⟩ = some (.int .u8 (x2 : Int)) ∧ w'.cell? ⟨g5, 3, none⟩ = some (.int .u8 (x3 : Int)))) 12 4 (by kernel_rfl) (by kernel_rfl) (by decide) ⟨hSb.out.c2, hSb.out.c3⟩ ?_
          (try simp only [Act.put, De.l0, De.l1, De.l2])
          refine De.MidT.read2 2 (by decide) (by simp only [De.g0, De.g1, De.g2]; rfl) (by kernel_rfl) (by kernel_rfl) (by kernel_rfl) (by intro b w' hw'; cases b <;> (obtain ⟨y1, y2⟩ := hw'; go_simp; (try with_reducible rfl))) ?_
          (try simp only [Act.put, De.l0, De.l1, De.l2])
          refine De.MidT.read2 3 (by decide) (by simp only [De.g0, De.g1, De.g2]; rfl) (by kernel_rfl) (by kernel_rfl) (by kernel_rfl) (by intro b w' hw'; cases b <;> (obtain ⟨y1, y2⟩ := hw'; go_simp; (try with_reducible rfl))) ?_
          (try simp only [Act.put, De.l0, De.l1, De.l2])
          refine De.MidT.read2 4 (by decide) (by simp only [De.g0, De.g1, De.g2]; rfl) (by kernel_rfl) (by kernel_rfl) (by kernel_rfl) (by intro b w' hw'; cases b <;> (obtain ⟨y1, y2⟩ := hw'; go_simp; (try with_reducible rfl))) ?_
          (try simp only [Act.put, De.l0, De.l1, De.l2])
          refine De.MidT.read2 7 (by decide) (by simp only [De.g0, De.g1, De.g2]; rfl) (by kernel_rfl) (by kernel_rfl) (by kernel_rfl) (by intro b w' hw'; cases b <;> (obtain ⟨y1, y2⟩ := hw'; go_simp; (try with_reducible rfl))) ?_
          (try simp only [Act.put, De.l0, De.l1, De.l2])
          refine De.MidT.read2 8 (by decide) (by simp only [De.g0, De.g1, De.g2]; rfl) (by kernel_rfl) (by kernel_rfl) (by kernel_rfl) (by intro b w' hw'; cases b <;> (obtain ⟨y1, y2⟩ := hw'; go_simp; (try with_reducible rfl))) ?_
          (try simp only [Act.put, De.l0, De.l1, De.l2])
          refine De.MidT.read2 9 (by decide) (by simp only [De.g0, De.g1, De.g2]; rfl) (by kernel_rfl) (by kernel_rfl) (by kernel_rfl) (by intro b w' hw'; cases b <;> (obtain ⟨y1, y2⟩ := hw'; go_simp; (try with_reducible rfl))) ?_
          (try simp only [Act.put, De.l0, De.l1, De.l2])
          refine De.MidT.read2 10 (by decide) (by simp only [De.g0, De.g1, De.g2]; rfl) (by kernel_rfl) (by kernel_rfl) (by kernel_rfl) (by intro b w' hw'; cases b <;> (obtain ⟨y1, y2⟩ := hw'; go_simp; (try with_reducible rfl))) ?_
          (try simp only [Act.put, De.l0, De.l1, De.l2])
          refine De.MidT.read2 11 (by decide) (by simp only [De.g0, De.g1, De.g2]; rfl) (by kernel_rfl) (by kernel_rfl) (by kernel_rfl) (by intro b w' hw'; cases b <;> (obtain ⟨y1, y2⟩ := hw'; go_simp; (try with_reducible rfl))) ?_
          (try simp only [Act.put, De.l0, De.l1, De.l2])
          (try refine De.MidT.tail ?_)
          refine De.Tr.one (i := 0) (by kernel_rfl) (by simp only [De.g0, De.g1, De.g2]; rfl) (by rfl) ?_
          refine wp_lit4 22 9 _ _ _ _ (.string ⟨#[50]⟩) (.string ⟨#[51]⟩) (.string ⟨#[53]⟩) (.string ⟨#[55]⟩) rfl rfl rfl rfl rfl (lit_str4 _ _ _ _) ?_
          intro w6 g6 hG6 hgr6 hge6
          have hS6 := Lib.hid (hSb.out.drew.callee (below_grown hgr6))
          refine ⟨⟨_, rfl⟩, ⟨hS6.out.c2, hS6.out.c3⟩, ?_⟩
          (try simp only [Act.put, De.l0, De.l1, De.l2])
          (try refine De.MidT.tail ?_)
          refine De.Tr.one (i := 1) (by kernel_rfl) (by simp only [De.g0, De.g1, De.g2]; rfl) (by rfl) ?_
          refine wp_enterK 53 #[.slice (some ⟨g6, 0, none⟩) 4 4] (by go_simp) (list_same _ _) ?_
          rintro e wq ⟨rfl, hw⟩
          replace hw := hw.symm
          subst hw
          refine ⟨_, rfl, ⟨_, rfl⟩, ⟨hS6.out.c2, hS6.out.c3⟩, ?_⟩
          (try simp only [Act.put, De.l0, De.l1, De.l2])
          refine De.MidT.read2 5 (by decide) (by simp only [De.g0, De.g1, De.g2]; rfl) (by kernel_rfl) (by kernel_rfl) (by kernel_rfl) (by intro b w' hw'; cases b <;> (obtain ⟨y1, y2⟩ := hw'; go_simp; (try with_reducible rfl))) ?_
          (try simp only [Act.put, De.l0, De.l1, De.l2])
          have cz6 : w6.cell? ⟨g6, j2, none⟩ = some (.string sz) := hG6.at_ j2 HSI.out
          (try simp only [Act.put, De.l0, De.l1, De.l2])
          (try refine De.MidT.tail ?_)
          refine De.Tr.two (i := 6) (j := 12) (by kernel_rfl) (by simp only [De.g0, De.g1, De.g2]; rfl) (by rfl) (by simp only [De.g0, De.g1, De.g2]; rfl) (by rfl) ?_ ?_
          · refine De.wp_pure ?va ?ya ?ka
            case ya => (go_simp; (try with_reducible rfl))
            refine ⟨⟨_, rfl⟩, ⟨hS6.out.c2, hS6.out.c3⟩, ?_⟩
            (try simp only [Act.put, De.l0, De.l1, De.l2])
            (try refine De.MidT.tail ?_)
            refine De.Tr.one (i := 12) (by kernel_rfl) (by simp only [De.g0, De.g1, De.g2]; rfl) (by rfl) ?_
            refine wp_enterK 44 #[.int .i64 (k3 : Int)] (by go_simp) (HIT.out _ hS6.out.be) ?_
            rintro e w7 ⟨rfl, hb7⟩
            have hS7 := Lib.hid (hS6.out.callee hb7)
            refine ⟨_, rfl, ⟨_, rfl⟩, ⟨hS7.out.c2, hS7.out.c3⟩, ?_⟩
            (try simp only [Act.put, De.l0, De.l1, De.l2])
            refine De.MidT.read2 13 (by decide) (by simp only [De.g0, De.g1, De.g2]; rfl) (by kernel_rfl) (by kernel_rfl) (by kernel_rfl) (by intro b w' hw'; clear hw'; go_simp; (try with_reducible rfl)) ?_
            (try simp only [Act.put, De.l0, De.l1, De.l2])
            refine De.MidT.read2 14 (by decide) (by simp only [De.g0, De.g1, De.g2]; rfl) (by kernel_rfl) (by kernel_rfl) (by kernel_rfl) (by intro b w' hw'; clear hw'; go_simp; (try with_reducible rfl)) ?_
            (try simp only [Act.put, De.l0, De.l1, De.l2])
            (try refine De.MidT.tail ?_)
            refine De.Tr.done (by kernel_rfl) ?_
            (try simp only [Act.put, De.l0, De.l1, De.l2])
            exact hk7 g6 _ hS7.out
          · refine wp_enterK 44 #[.int .i64 (k3 : Int)] (by go_simp) (HIT.out _ hS6.out.be) ?_
            rintro e w7 ⟨rfl, hb7⟩
            have hS7 := Lib.hid (hS6.out.callee hb7)
            have cz7 : w7.cell? ⟨g6, j2, none⟩ = some (.string sz) := (hG6.callee hb7).at_ j2 HSI.out
            refine ⟨_, rfl, ⟨_, rfl⟩, ⟨hS7.out.c2, hS7.out.c3⟩, ?_⟩
            (try simp only [Act.put, De.l0, De.l1, De.l2])
            (try refine De.MidT.tail ?_)
            refine De.Tr.one (i := 6) (by kernel_rfl) (by simp only [De.g0, De.g1, De.g2]; rfl) (by rfl) ?_
            refine De.wp_pure ?vb ?yb ?kb
            case yb => (go_simp; (try with_reducible rfl))
            refine ⟨⟨_, rfl⟩, ⟨hS7.out.c2, hS7.out.c3⟩, ?_⟩
            (try simp only [Act.put, De.l0, De.l1, De.l2])
            refine De.MidT.read2 13 (by decide) (by simp only [De.g0, De.g1, De.g2]; rfl) (by kernel_rfl) (by kernel_rfl) (by kernel_rfl) (by intro b w' hw'; clear hw'; go_simp; (try with_reducible rfl)) ?_
            (try simp only [Act.put, De.l0, De.l1, De.l2])
            refine De.MidT.read2 14 (by decide) (by simp only [De.g0, De.g1, De.g2]; rfl) (by kernel_rfl) (by kernel_rfl) (by kernel_rfl) (by intro b w' hw'; clear hw'; go_simp; (try with_reducible rfl)) ?_
            (try simp only [Act.put, De.l0, De.l1, De.l2])
            (try refine De.MidT.tail ?_)
            refine De.Tr.done (by kernel_rfl) ?_
            (try simp only [Act.put, De.l0, De.l1, De.l2])
            exact hk7 g6 _ hS7.out
        case later =>
          intro g6 w7 hS7'
          have hS := Lib.hid hS7'
          have HLN : Hid (ls.length ≤ 30) := by
            rw [Hid, ← HLS.out, List.length_append, List.length_map, List.length_take]
            have : firstL.length = 6 := rfl
            omega
          have c0 := hS.out.c0
          obtain ⟨r, hr⟩ : ∃ r, x0 % 16 = r := ⟨_, rfl⟩
          have hr16 : r < 16 := by omega
          have m0 : (0 : Int) ≤ x0 := by omega
          have m0' : (x0 : Int) < 256 := by omega
          clear hS7' hSb
          refine a7 _ _ ?_
          clear a7
          rcases (by omega : r = 0 ∨ (r = 1 ∨ r = 2 ∨ r = 3) ∨ (r = 4 ∨ r = 5 ∨ r = 6 ∨ r = 7 ∨ r = 8) ∨ (r = 9 ∨ r = 10) ∨ r = 11 ∨ r = 12 ∨ r = 13 ∨ r = 14 ∨ r = 15) with hg | hg | hg | hg | hg | hg | hg | hg | hg
          · -- [0]
            as_aux_lemma =>
              subst hg
              have er := hr
              have ei := (Int.ofNat_tmod x0 16).symm
              rw [hr] at ei
              simp only [Int.cast_ofNat_Int] at ei
              obtain ⟨s1, s1e⟩ : ∃ q, (⟨#[115, 105, 122, 101, 32]⟩ : ByteArray) ++ dr = q := ⟨_, rfl⟩
              have s1a : ∀ w', (Op.stringOp .add ⟨#[115, 105, 122, 101, 32]⟩ dr).run Tryz.prog w' = .ok (.string s1) w' := fun w' => by rw [← s1e]; exact add_any _ _ (Nat.le_trans (show (⟨#[115, 105, 122, 101, 32]⟩ : ByteArray).size ≤ 1000 by decide) (by decide)) (Nat.le_trans hdrz (by decide)) w'
              have hs1z : s1.size ≤ 1000 + 1000 := sz_add s1e (m := 1000) (show (⟨#[115, 105, 122, 101, 32]⟩ : ByteArray).size ≤ 1000 by decide) hdrz
              obtain ⟨s2, s2e⟩ : ∃ q, s1 ++ (⟨#[32]⟩ : ByteArray) = q := ⟨_, rfl⟩
              have s2a : ∀ w', (Op.stringOp .add s1 ⟨#[32]⟩).run Tryz.prog w' = .ok (.string s2) w' := fun w' => by rw [← s2e]; exact add_any _ _ (Nat.le_trans hs1z (by decide)) (Nat.le_trans (show (⟨#[32]⟩ : ByteArray).size ≤ 1000 by decide) (by decide)) w'
              have hs2z : s2.size ≤ 2000 + 1000 := sz_add s2e (m := 2000) hs1z (show (⟨#[32]⟩ : ByteArray).size ≤ 1000 by decide)
              obtain ⟨s3, s3e⟩ : ∃ q, s2 ++ sz = q := ⟨_, rfl⟩
              have s3a : ∀ w', (Op.stringOp .add s2 sz).run Tryz.prog w' = .ok (.string s3) w' := fun w' => by rw [← s3e]; exact add_any _ _ (Nat.le_trans hs2z (by decide)) (Nat.le_trans hszz (by decide)) w'
              have hs3z : s3.size ≤ 3000 + 1000 := sz_add s3e (m := 3000) hs2z hszz
              have hNX : Hid (firstL ++ (qs.take (i + 1)).map (lineS u) = ls ++ [s3]) := by
                rw [Hid, next_line hqi.out HLS.out]
                congr 2
                unfold lineS
                simp only []
                rw [if_pos (by omega)]
                rw [show drP ⟨x0, x1, x2, x3⟩ = dr from HDR.out, show szP ⟨x0, x1, x2, x3⟩ = sz from HSZ.out]
                rw [← s3e, ← s2e, ← s1e]
                rfl
              clear er hr s1e s2e s3e
              go_wp2_with (first
              | (with_reducible show wpList _ _ _ (⟨_, .buildSlice 22 _ _, _, _, _, _⟩ :: _) _ _
                 refine wpList_lit1 rfl 22 9 _ (.string s3) rfl rfl (lit_str s3) ?_
                 intro w8 g8 hG8 hgr8 hge8
                 have hS8 := Lib.hid (hS.out.callee (below_grown hgr8)))
              | (at_builtin
                 refine wpList_pushS rfl _ _ rfl rfl hS8.out.o g8 1 s3 rfl hG8 (Nat.le_trans HLN.out (by decide)) hS8.out.be.size ?_
                 intro g9 cap9 w9 hO9 hgr9 hat9 hlt9
                 have hB9 := Lib.hid (hS8.out.be.grown hgr9 hS8.out.be.size (fun g hg => hS8.out.o.ge hg))))
              go_roundw
              case rel => exact ⟨i + 1, by omega, by omega, by go_num, by rw [hNX.out]; simpa [OwnS] using hO9, hB9.out⟩
              case measure => simp only [intOf]; omega
          · -- [1, 2, 3]
            rcases hg with rfl | rfl | rfl <;> (as_aux_lemma =>
              have er := hr
              have ei := (Int.ofNat_tmod x0 16).symm
              rw [hr] at ei
              simp only [Int.cast_ofNat_Int] at ei
              obtain ⟨s1, s1e⟩ : ∃ q, (⟨#[98, 117, 121, 32]⟩ : ByteArray) ++ dr = q := ⟨_, rfl⟩
              have s1a : ∀ w', (Op.stringOp .add ⟨#[98, 117, 121, 32]⟩ dr).run Tryz.prog w' = .ok (.string s1) w' := fun w' => by rw [← s1e]; exact add_any _ _ (Nat.le_trans (show (⟨#[98, 117, 121, 32]⟩ : ByteArray).size ≤ 1000 by decide) (by decide)) (Nat.le_trans hdrz (by decide)) w'
              have hs1z : s1.size ≤ 1000 + 1000 := sz_add s1e (m := 1000) (show (⟨#[98, 117, 121, 32]⟩ : ByteArray).size ≤ 1000 by decide) hdrz
              obtain ⟨s2, s2e⟩ : ∃ q, s1 ++ (⟨#[32]⟩ : ByteArray) = q := ⟨_, rfl⟩
              have s2a : ∀ w', (Op.stringOp .add s1 ⟨#[32]⟩).run Tryz.prog w' = .ok (.string s2) w' := fun w' => by rw [← s2e]; exact add_any _ _ (Nat.le_trans hs1z (by decide)) (Nat.le_trans (show (⟨#[32]⟩ : ByteArray).size ≤ 1000 by decide) (by decide)) w'
              have hs2z : s2.size ≤ 2000 + 1000 := sz_add s2e (m := 2000) hs1z (show (⟨#[32]⟩ : ByteArray).size ≤ 1000 by decide)
              obtain ⟨s3, s3e⟩ : ∃ q, s2 ++ sz = q := ⟨_, rfl⟩
              have s3a : ∀ w', (Op.stringOp .add s2 sz).run Tryz.prog w' = .ok (.string s3) w' := fun w' => by rw [← s3e]; exact add_any _ _ (Nat.le_trans hs2z (by decide)) (Nat.le_trans hszz (by decide)) w'
              have hs3z : s3.size ≤ 3000 + 1000 := sz_add s3e (m := 3000) hs2z hszz
              obtain ⟨s4, s4e⟩ : ∃ q, s3 ++ (⟨#[32]⟩ : ByteArray) = q := ⟨_, rfl⟩
              have s4a : ∀ w', (Op.stringOp .add s3 ⟨#[32]⟩).run Tryz.prog w' = .ok (.string s4) w' := fun w' => by rw [← s4e]; exact add_any _ _ (Nat.le_trans hs3z (by decide)) (Nat.le_trans (show (⟨#[32]⟩ : ByteArray).size ≤ 1000 by decide) (by decide)) w'
              have hs4z : s4.size ≤ 4000 + 1000 := sz_add s4e (m := 4000) hs3z (show (⟨#[32]⟩ : ByteArray).size ≤ 1000 by decide)
              obtain ⟨s5, s5e⟩ : ∃ q, s4 ++ kb = q := ⟨_, rfl⟩
              have s5a : ∀ w', (Op.stringOp .add s4 kb).run Tryz.prog w' = .ok (.string s5) w' := fun w' => by rw [← s5e]; exact add_any _ _ (Nat.le_trans hs4z (by decide)) (Nat.le_trans hkbz (by decide)) w'
              have hs5z : s5.size ≤ 5000 + 1000 := sz_add s5e (m := 5000) hs4z hkbz
              have hNX : Hid (firstL ++ (qs.take (i + 1)).map (lineS u) = ls ++ [s5]) := by
                rw [Hid, next_line hqi.out HLS.out]
                congr 2
                unfold lineS
                simp only []
                rw [if_neg (by omega), if_pos (by omega)]
                rw [show drP ⟨x0, x1, x2, x3⟩ = dr from HDR.out, show szP ⟨x0, x1, x2, x3⟩ = sz from HSZ.out, HKB.out]
                rw [← s5e, ← s4e, ← s3e, ← s2e, ← s1e]
                rfl
              clear er hr s1e s2e s3e s4e s5e
              go_wp2_with (first
            | (with_reducible show wpList _ _ _ (⟨_, .buildSlice 22 _ _, _, _, _, _⟩ :: _) _ _
               refine wpList_lit1 rfl 22 9 _ (.string s5) rfl rfl (lit_str s5) ?_
               intro w8 g8 hG8 hgr8 hge8
               have hS8 := Lib.hid (hS.out.callee (below_grown hgr8)))
            | (at_builtin
               refine wpList_pushS rfl _ _ rfl rfl hS8.out.o g8 1 s5 rfl hG8 (Nat.le_trans HLN.out (by decide)) hS8.out.be.size ?_
               intro g9 cap9 w9 hO9 hgr9 hat9 hlt9
               have hB9 := Lib.hid (hS8.out.be.grown hgr9 hS8.out.be.size (fun g hg => hS8.out.o.ge hg))))
              go_roundw
              case rel => exact ⟨i + 1, by omega, by omega, by go_num, by rw [hNX.out]; simpa [OwnS] using hO9, hB9.out⟩
              case measure => simp only [intOf]; omega)
          · -- [4, 5, 6, 7, 8]
            rcases hg with rfl | rfl | rfl | rfl | rfl <;> (as_aux_lemma =>
              have er := hr
              have ei := (Int.ofNat_tmod x0 16).symm
              rw [hr] at ei
              simp only [Int.cast_ofNat_Int] at ei
              obtain ⟨j24, hj24⟩ : ∃ q, x3 % 24 = q := ⟨_, rfl⟩
              have e24 : Int.tmod (x3 : Int) 24 = (j24 : Int) := by rw [← hj24]; exact (Int.ofNat_tmod x3 24).symm
              obtain ⟨k24, hk24⟩ : ∃ q, 1 + j24 = q := ⟨_, rfl⟩
              have e25 : (1 : Int) + (j24 : Int) = (k24 : Int) := by omega
              have hw25 : IntKind.i64.wrap (k24 : Int) = k24 := IntWalk.i64_in _ (by omega)
              obtain ⟨h2, hh2⟩ : ∃ q, x2 / 2 = q := ⟨_, rfl⟩
              have l22 : h2 < 256 := by omega
              have e22 : Int.tdiv (x2 : Int) 2 = (h2 : Int) := by rw [← hh2]; exact (Int.ofNat_tdiv x2 2).symm
              have hw22 : IntKind.u8.wrap (h2 : Int) = h2 := by simp [IntKind.wrap, IntKind.signed, IntKind.bits]; omega
              obtain ⟨kq, hkq⟩ : ∃ q, kB k24 = q := ⟨_, rfl⟩
              have HKQ : Hid (kB (1 + x3 % 24) = kq) := by rw [Hid, hj24, hk24, hkq]
              have HIQ : Hid (∀ w', Below w.heap.size w w' → Calls Tryz.prog 44 #[.int .i64 (k24 : Int)] w' fun e w'' => e = .returned (.string kq) ∧ Below w'.heap.size w' w'') := fun w' hb => by
                rw [← hkq]
                exact itoa_any k24 (by omega) (HT.out.below hb).2
              have hkqz : kq.size ≤ 1000 := by
                rw [← hkq, kB, ← byts_len, byts_bstr]
                exact Nat.le_trans (dec_len k24 (by omega)) (by decide)
              obtain ⟨d4, hd4⟩ : ∃ q, oneP drawersL h2 = q := ⟨_, rfl⟩
              have HD4 : Hid (oneP drawersL (x2 / 2) = d4) := by rw [Hid, hh2, hd4]
              have HO4 := Lib.hid hd4
              have hd4z : d4.size ≤ 1000 := by rw [← hd4]; exact one_short (by decide) _
              clear hj24 hk24 hkq hh2 hd4 e3 e4 hw3
              obtain ⟨s1, s1e⟩ : ∃ q, (⟨#[111, 114, 100, 101, 114, 32]⟩ : ByteArray) ++ od = q := ⟨_, rfl⟩
              have s1a : ∀ w', (Op.stringOp .add ⟨#[111, 114, 100, 101, 114, 32]⟩ od).run Tryz.prog w' = .ok (.string s1) w' := fun w' => by rw [← s1e]; exact add_any _ _ (Nat.le_trans (show (⟨#[111, 114, 100, 101, 114, 32]⟩ : ByteArray).size ≤ 1000 by decide) (by decide)) (Nat.le_trans hodz (by decide)) w'
              have hs1z : s1.size ≤ 1000 + 1000 := sz_add s1e (m := 1000) (show (⟨#[111, 114, 100, 101, 114, 32]⟩ : ByteArray).size ≤ 1000 by decide) hodz
              obtain ⟨s2, s2e⟩ : ∃ q, s1 ++ (⟨#[32]⟩ : ByteArray) = q := ⟨_, rfl⟩
              have s2a : ∀ w', (Op.stringOp .add s1 ⟨#[32]⟩).run Tryz.prog w' = .ok (.string s2) w' := fun w' => by rw [← s2e]; exact add_any _ _ (Nat.le_trans hs1z (by decide)) (Nat.le_trans (show (⟨#[32]⟩ : ByteArray).size ≤ 1000 by decide) (by decide)) w'
              have hs2z : s2.size ≤ 2000 + 1000 := sz_add s2e (m := 2000) hs1z (show (⟨#[32]⟩ : ByteArray).size ≤ 1000 by decide)
              obtain ⟨s3, s3e⟩ : ∃ q, s2 ++ d4 = q := ⟨_, rfl⟩
              have s3a : ∀ w', (Op.stringOp .add s2 d4).run Tryz.prog w' = .ok (.string s3) w' := fun w' => by rw [← s3e]; exact add_any _ _ (Nat.le_trans hs2z (by decide)) (Nat.le_trans hd4z (by decide)) w'
              have hs3z : s3.size ≤ 3000 + 1000 := sz_add s3e (m := 3000) hs2z hd4z
              obtain ⟨s4, s4e⟩ : ∃ q, s3 ++ (⟨#[32]⟩ : ByteArray) = q := ⟨_, rfl⟩
              have s4a : ∀ w', (Op.stringOp .add s3 ⟨#[32]⟩).run Tryz.prog w' = .ok (.string s4) w' := fun w' => by rw [← s4e]; exact add_any _ _ (Nat.le_trans hs3z (by decide)) (Nat.le_trans (show (⟨#[32]⟩ : ByteArray).size ≤ 1000 by decide) (by decide)) w'
              have hs4z : s4.size ≤ 4000 + 1000 := sz_add s4e (m := 4000) hs3z (show (⟨#[32]⟩ : ByteArray).size ≤ 1000 by decide)
              obtain ⟨s5, s5e⟩ : ∃ q, s4 ++ kq = q := ⟨_, rfl⟩
              have s5a : ∀ w', (Op.stringOp .add s4 kq).run Tryz.prog w' = .ok (.string s5) w' := fun w' => by rw [← s5e]; exact add_any _ _ (Nat.le_trans hs4z (by decide)) (Nat.le_trans hkqz (by decide)) w'
              have hs5z : s5.size ≤ 5000 + 1000 := sz_add s5e (m := 5000) hs4z hkqz
              have hNX : Hid (firstL ++ (qs.take (i + 1)).map (lineS u) = ls ++ [s5]) := by
                rw [Hid, next_line hqi.out HLS.out]
                congr 2
                unfold lineS
                simp only []
                rw [if_neg (by omega), if_neg (by omega), if_pos (by omega)]
                rw [show orP ⟨x0, x1, x2, x3⟩ = od from HOD.out, HD4.out, HKQ.out]
                rw [← s5e, ← s4e, ← s3e, ← s2e, ← s1e]
                rfl
              clear er hr s1e s2e s3e s4e s5e
              go_wp2_with (fail)
              refine De.region_tree (fun b w' => bif b then (True) else (w'.cell? ⟨g5, 2, none⟩ = some (.int .u8 (x2 : Int)) ∧ w'.cell? ⟨g5, 3, none⟩ = some (.int .u8 (x3 : Int)))) 19 5 (by kernel_rfl) (by kernel_rfl) (by decide) ⟨hS.out.c2, hS.out.c3⟩ ?_
              (try simp only [Act.put, De.l0, De.l1, De.l2])
              refine De.MidT.read 0 (by decide) (by simp only [De.g0, De.g1, De.g2]; rfl) (by kernel_rfl) (by kernel_rfl) (by kernel_rfl) (by kernel_rfl) (by intro w' hw'; obtain ⟨y1, y2⟩ := hw'; go_simp; (try with_reducible rfl)) ?_
              (try simp only [Act.put, De.l0, De.l1, De.l2])
              refine De.MidT.read 1 (by decide) (by simp only [De.g0, De.g1, De.g2]; rfl) (by kernel_rfl) (by kernel_rfl) (by kernel_rfl) (by kernel_rfl) (by intro w' hw'; obtain ⟨y1, y2⟩ := hw'; go_simp; (try with_reducible rfl)) ?_
              (try simp only [Act.put, De.l0, De.l1, De.l2])
              refine De.MidT.read 2 (by decide) (by simp only [De.g0, De.g1, De.g2]; rfl) (by kernel_rfl) (by kernel_rfl) (by kernel_rfl) (by kernel_rfl) (by intro w' hw'; obtain ⟨y1, y2⟩ := hw'; go_simp; (try with_reducible rfl)) ?_
              (try simp only [Act.put, De.l0, De.l1, De.l2])
              refine De.MidT.read 3 (by decide) (by simp only [De.g0, De.g1, De.g2]; rfl) (by kernel_rfl) (by kernel_rfl) (by kernel_rfl) (by kernel_rfl) (by intro w' hw'; obtain ⟨y1, y2⟩ := hw'; go_simp; (try with_reducible rfl)) ?_
              (try simp only [Act.put, De.l0, De.l1, De.l2])
              refine De.MidT.read 5 (by decide) (by simp only [De.g0, De.g1, De.g2]; rfl) (by kernel_rfl) (by kernel_rfl) (by kernel_rfl) (by kernel_rfl) (by intro w' hw'; obtain ⟨y1, y2⟩ := hw'; go_simp; (try with_reducible rfl)) ?_
              (try simp only [Act.put, De.l0, De.l1, De.l2])
              refine De.MidT.read 6 (by decide) (by simp only [De.g0, De.g1, De.g2]; rfl) (by kernel_rfl) (by kernel_rfl) (by kernel_rfl) (by kernel_rfl) (by intro w' hw'; obtain ⟨y1, y2⟩ := hw'; go_simp; (try with_reducible rfl)) ?_
              (try simp only [Act.put, De.l0, De.l1, De.l2])
              refine De.MidT.read 7 (by decide) (by simp only [De.g0, De.g1, De.g2]; rfl) (by kernel_rfl) (by kernel_rfl) (by kernel_rfl) (by kernel_rfl) (by intro w' hw'; obtain ⟨y1, y2⟩ := hw'; go_simp; (try with_reducible rfl)) ?_
              (try simp only [Act.put, De.l0, De.l1, De.l2])
              refine De.MidT.read 11 (by decide) (by simp only [De.g0, De.g1, De.g2]; rfl) (by kernel_rfl) (by kernel_rfl) (by kernel_rfl) (by kernel_rfl) (by intro w' hw'; obtain ⟨y1, y2⟩ := hw'; go_simp; (try with_reducible rfl)) ?_
              (try simp only [Act.put, De.l0, De.l1, De.l2])
              refine De.MidT.read 12 (by decide) (by simp only [De.g0, De.g1, De.g2]; rfl) (by kernel_rfl) (by kernel_rfl) (by kernel_rfl) (by kernel_rfl) (by intro w' hw'; obtain ⟨y1, y2⟩ := hw'; go_simp; (try with_reducible rfl)) ?_
              (try simp only [Act.put, De.l0, De.l1, De.l2])
              refine De.MidT.read 13 (by decide) (by simp only [De.g0, De.g1, De.g2]; rfl) (by kernel_rfl) (by kernel_rfl) (by kernel_rfl) (by kernel_rfl) (by intro w' hw'; obtain ⟨y1, y2⟩ := hw'; go_simp; (try with_reducible rfl)) ?_
              (try simp only [Act.put, De.l0, De.l1, De.l2])
              refine De.MidT.read 14 (by decide) (by simp only [De.g0, De.g1, De.g2]; rfl) (by kernel_rfl) (by kernel_rfl) (by kernel_rfl) (by kernel_rfl) (by intro w' hw'; obtain ⟨y1, y2⟩ := hw'; go_simp; (try with_reducible rfl)) ?_
              (try simp only [Act.put, De.l0, De.l1, De.l2])
              refine De.MidT.read 15 (by decide) (by simp only [De.g0, De.g1, De.g2]; rfl) (by kernel_rfl) (by kernel_rfl) (by kernel_rfl) (by kernel_rfl) (by intro w' hw'; obtain ⟨y1, y2⟩ := hw'; go_simp; (try with_reducible rfl)) ?_
              (try simp only [Act.put, De.l0, De.l1, De.l2])
              (try refine De.MidT.tail ?_)
              refine De.Tr.one (i := 4) (by kernel_rfl) (by simp only [De.g0, De.g1, De.g2]; rfl) (by rfl) ?_
              refine wp_enterK 40 #[] (by go_simp) (drawers_list _) ?_
              rintro e wa ⟨adq, rfl, hra, hba⟩
              have hSa := Lib.hid (hS.out.drew.callee hba)
              refine ⟨_, rfl, ⟨_, rfl⟩, ⟨hSa.out.c2, hSa.out.c3⟩, ?_⟩
              (try simp only [Act.put, De.l0, De.l1, De.l2])
              (try refine De.MidT.tail ?_)
              refine De.Tr.one (i := 8) (by kernel_rfl) (by simp only [De.g0, De.g1, De.g2]; rfl) (by rfl) ?_
              refine wp_enterK 39 #[.slice (some adq) 2 2, .int .u8 (h2 : Int)] (by go_simp) (one_any (some adq) 2 2 drawersL hra (by decide) (by decide) h2 l22) ?_
              rintro e wq ⟨rfl, hw⟩
              replace hw := hw.symm
              subst hw
              rw [HO4.out]
              refine ⟨_, rfl, ⟨_, rfl⟩, ⟨hSa.out.c2, hSa.out.c3⟩, ?_⟩
              (try simp only [Act.put, De.l0, De.l1, De.l2])
              refine De.MidT.read 9 (by decide) (by simp only [De.g0, De.g1, De.g2]; rfl) (by kernel_rfl) (by kernel_rfl) (by kernel_rfl) (by kernel_rfl) (by intro w' hw'; obtain ⟨y1, y2⟩ := hw'; go_simp; (try with_reducible rfl)) ?_
              (try simp only [Act.put, De.l0, De.l1, De.l2])
              refine De.MidT.read 10 (by decide) (by simp only [De.g0, De.g1, De.g2]; rfl) (by kernel_rfl) (by kernel_rfl) (by kernel_rfl) (by kernel_rfl) (by intro w' hw'; obtain ⟨y1, y2⟩ := hw'; go_simp; (try with_reducible rfl)) ?_
              (try simp only [Act.put, De.l0, De.l1, De.l2])
              (try refine De.MidT.tail ?_)
              refine De.Tr.one (i := 16) (by kernel_rfl) (by simp only [De.g0, De.g1, De.g2]; rfl) (by rfl) ?_
              refine wp_enterK 44 #[.int .i64 (k24 : Int)] (by go_simp) (HIQ.out _ hSa.out.be) ?_
              rintro e wi ⟨rfl, hbi⟩
              have hSi := Lib.hid (hSa.out.callee hbi)
              refine ⟨_, rfl, ⟨_, rfl⟩, ⟨hSi.out.c2, hSi.out.c3⟩, ?_⟩
              (try simp only [Act.put, De.l0, De.l1, De.l2])
              refine De.MidT.read 17 (by decide) (by simp only [De.g0, De.g1, De.g2]; rfl) (by kernel_rfl) (by kernel_rfl) (by kernel_rfl) (by kernel_rfl) (by intro w' hw'; obtain ⟨y1, y2⟩ := hw'; go_simp; (try with_reducible rfl)) ?_
              (try simp only [Act.put, De.l0, De.l1, De.l2])
              (try refine De.MidT.tail ?_)
              refine De.Tr.one (i := 18) (by kernel_rfl) (by simp only [De.g0, De.g1, De.g2]; rfl) (by rfl) ?_
              refine wp_lit1 22 9 _ (.string s5) rfl rfl (lit_str s5) ?_
              intro w8 g8 hG8 hgr8 hge8
              have hS8 := Lib.hid (hSi.out.callee (below_grown hgr8))
              refine ⟨⟨_, rfl⟩, ⟨hS8.out.c2, hS8.out.c3⟩, ?_⟩
              (try simp only [Act.put, De.l0, De.l1, De.l2])
              (try refine De.MidT.tail ?_)
              refine De.Tr.one (i := 19) (by kernel_rfl) (by simp only [De.g0, De.g1, De.g2]; rfl) (by rfl) ?_
              refine wp_pushS _ _ rfl rfl hS8.out.o g8 1 s5 rfl hG8 (Nat.le_trans HLN.out (by decide)) hS8.out.be.size ?_
              intro g9 cap9 w9 hO9 hgr9 hat9 hlt9
              have hB9 := Lib.hid (hS8.out.be.grown hgr9 hS8.out.be.size (fun g hg => hS8.out.o.ge hg))
              refine ⟨⟨_, rfl⟩, trivial, ?_⟩
              (try simp only [Act.put, De.l0, De.l1, De.l2])
              refine De.MidT.read2 20 (by decide) (by simp only [De.g0, De.g1, De.g2]; rfl) (by kernel_rfl) (by kernel_rfl) (by kernel_rfl) (by intro b w' hw'; clear hw'; go_simp; (try with_reducible rfl)) ?_
              (try simp only [Act.put, De.l0, De.l1, De.l2])
              (try refine De.MidT.tail ?_)
              refine De.Tr.done (by kernel_rfl) ?_
              (try simp only [Act.put, De.l0, De.l1, De.l2])
              go_wp2_with (fail)
              go_roundw
              case rel => exact ⟨i + 1, by omega, by omega, by go_num, by rw [hNX.out]; simpa [OwnS] using hO9, hB9.out⟩
              case measure => simp only [intOf]; omega)
          · -- [9, 10]
            rcases hg with rfl | rfl <;> (as_aux_lemma =>
              have er := hr
              have ei := (Int.ofNat_tmod x0 16).symm
              rw [hr] at ei
              simp only [Int.cast_ofNat_Int] at ei
              obtain ⟨s1, s1e⟩ : ∃ q, (⟨#[98, 97, 99, 107, 32]⟩ : ByteArray) ++ od = q := ⟨_, rfl⟩
              have s1a : ∀ w', (Op.stringOp .add ⟨#[98, 97, 99, 107, 32]⟩ od).run Tryz.prog w' = .ok (.string s1) w' := fun w' => by rw [← s1e]; exact add_any _ _ (Nat.le_trans (show (⟨#[98, 97, 99, 107, 32]⟩ : ByteArray).size ≤ 1000 by decide) (by decide)) (Nat.le_trans hodz (by decide)) w'
              have hs1z : s1.size ≤ 1000 + 1000 := sz_add s1e (m := 1000) (show (⟨#[98, 97, 99, 107, 32]⟩ : ByteArray).size ≤ 1000 by decide) hodz
              have hNX : Hid (firstL ++ (qs.take (i + 1)).map (lineS u) = ls ++ [s1]) := by
                rw [Hid, next_line hqi.out HLS.out]
                congr 2
                unfold lineS
                simp only []
                rw [if_neg (by omega), if_neg (by omega), if_neg (by omega), if_pos (by omega)]
                rw [show orP ⟨x0, x1, x2, x3⟩ = od from HOD.out]
                rw [← s1e]
              clear er hr s1e
              go_wp2_with (first
            | (with_reducible show wpList _ _ _ (⟨_, .buildSlice 22 _ _, _, _, _, _⟩ :: _) _ _
               refine wpList_lit1 rfl 22 9 _ (.string s1) rfl rfl (lit_str s1) ?_
               intro w8 g8 hG8 hgr8 hge8
               have hS8 := Lib.hid (hS.out.callee (below_grown hgr8)))
            | (at_builtin
               refine wpList_pushS rfl _ _ rfl rfl hS8.out.o g8 1 s1 rfl hG8 (Nat.le_trans HLN.out (by decide)) hS8.out.be.size ?_
               intro g9 cap9 w9 hO9 hgr9 hat9 hlt9
               have hB9 := Lib.hid (hS8.out.be.grown hgr9 hS8.out.be.size (fun g hg => hS8.out.o.ge hg))))
              go_roundw
              case rel => exact ⟨i + 1, by omega, by omega, by go_num, by rw [hNX.out]; simpa [OwnS] using hO9, hB9.out⟩
              case measure => simp only [intOf]; omega)
          · -- [11]
            as_aux_lemma =>
              subst hg
              have er := hr
              have ei := (Int.ofNat_tmod x0 16).symm
              rw [hr] at ei
              simp only [Int.cast_ofNat_Int] at ei
              obtain ⟨s1, s1e⟩ : ∃ q, (⟨#[109, 111, 116, 104, 32]⟩ : ByteArray) ++ dr = q := ⟨_, rfl⟩
              have s1a : ∀ w', (Op.stringOp .add ⟨#[109, 111, 116, 104, 32]⟩ dr).run Tryz.prog w' = .ok (.string s1) w' := fun w' => by rw [← s1e]; exact add_any _ _ (Nat.le_trans (show (⟨#[109, 111, 116, 104, 32]⟩ : ByteArray).size ≤ 1000 by decide) (by decide)) (Nat.le_trans hdrz (by decide)) w'
              have hs1z : s1.size ≤ 1000 + 1000 := sz_add s1e (m := 1000) (show (⟨#[109, 111, 116, 104, 32]⟩ : ByteArray).size ≤ 1000 by decide) hdrz
              obtain ⟨s2, s2e⟩ : ∃ q, s1 ++ (⟨#[32]⟩ : ByteArray) = q := ⟨_, rfl⟩
              have s2a : ∀ w', (Op.stringOp .add s1 ⟨#[32]⟩).run Tryz.prog w' = .ok (.string s2) w' := fun w' => by rw [← s2e]; exact add_any _ _ (Nat.le_trans hs1z (by decide)) (Nat.le_trans (show (⟨#[32]⟩ : ByteArray).size ≤ 1000 by decide) (by decide)) w'
              have hs2z : s2.size ≤ 2000 + 1000 := sz_add s2e (m := 2000) hs1z (show (⟨#[32]⟩ : ByteArray).size ≤ 1000 by decide)
              obtain ⟨s3, s3e⟩ : ∃ q, s2 ++ sz = q := ⟨_, rfl⟩
              have s3a : ∀ w', (Op.stringOp .add s2 sz).run Tryz.prog w' = .ok (.string s3) w' := fun w' => by rw [← s3e]; exact add_any _ _ (Nat.le_trans hs2z (by decide)) (Nat.le_trans hszz (by decide)) w'
              have hs3z : s3.size ≤ 3000 + 1000 := sz_add s3e (m := 3000) hs2z hszz
              have hNX : Hid (firstL ++ (qs.take (i + 1)).map (lineS u) = ls ++ [s3]) := by
                rw [Hid, next_line hqi.out HLS.out]
                congr 2
                unfold lineS
                simp only []
                rw [if_neg (by omega), if_neg (by omega), if_neg (by omega), if_neg (by omega), if_pos (by omega)]
                rw [show drP ⟨x0, x1, x2, x3⟩ = dr from HDR.out, show szP ⟨x0, x1, x2, x3⟩ = sz from HSZ.out]
                rw [← s3e, ← s2e, ← s1e]
                rfl
              clear er hr s1e s2e s3e
              go_wp2_with (first
              | (with_reducible show wpList _ _ _ (⟨_, .buildSlice 22 _ _, _, _, _, _⟩ :: _) _ _
                 refine wpList_lit1 rfl 22 9 _ (.string s3) rfl rfl (lit_str s3) ?_
                 intro w8 g8 hG8 hgr8 hge8
                 have hS8 := Lib.hid (hS.out.callee (below_grown hgr8)))
              | (at_builtin
                 refine wpList_pushS rfl _ _ rfl rfl hS8.out.o g8 1 s3 rfl hG8 (Nat.le_trans HLN.out (by decide)) hS8.out.be.size ?_
                 intro g9 cap9 w9 hO9 hgr9 hat9 hlt9
                 have hB9 := Lib.hid (hS8.out.be.grown hgr9 hS8.out.be.size (fun g hg => hS8.out.o.ge hg))))
              go_roundw
              case rel => exact ⟨i + 1, by omega, by omega, by go_num, by rw [hNX.out]; simpa [OwnS] using hO9, hB9.out⟩
              case measure => simp only [intOf]; omega
          · -- [12]
            as_aux_lemma =>
              subst hg
              have er := hr
              have ei := (Int.ofNat_tmod x0 16).symm
              rw [hr] at ei
              simp only [Int.cast_ofNat_Int] at ei
              obtain ⟨j5, hj5⟩ : ∃ q, x3 % 5 = q := ⟨_, rfl⟩
              have e5 : Int.tmod (x3 : Int) 5 = (j5 : Int) := by rw [← hj5]; exact (Int.ofNat_tmod x3 5).symm
              have c3 := hS.out.c3
              obtain ⟨kq, hkq⟩ : ∃ q, kB j5 = q := ⟨_, rfl⟩
              have HKQ : Hid (kB (x3 % 5) = kq) := by rw [Hid, hj5, hkq]
              have HIQ : Hid (∀ w', Below w.heap.size w w' → Calls Tryz.prog 44 #[.int .i64 (j5 : Int)] w' fun e w'' => e = .returned (.string kq) ∧ Below w'.heap.size w' w'') := fun w' hb => by
                rw [← hkq]
                exact itoa_any j5 (by omega) (HT.out.below hb).2
              have hkqz : kq.size ≤ 1000 := by
                rw [← hkq, kB, ← byts_len, byts_bstr]
                exact Nat.le_trans (dec_len j5 (by omega)) (by decide)
              have b5 : (j5 : Int) < 5 := by omega
              clear hj5 hkq e3
              obtain ⟨s1, s1e⟩ : ∃ q, (⟨#[99, 111, 117, 110, 116, 32]⟩ : ByteArray) ++ dr = q := ⟨_, rfl⟩
              have s1a : ∀ w', (Op.stringOp .add ⟨#[99, 111, 117, 110, 116, 32]⟩ dr).run Tryz.prog w' = .ok (.string s1) w' := fun w' => by rw [← s1e]; exact add_any _ _ (Nat.le_trans (show (⟨#[99, 111, 117, 110, 116, 32]⟩ : ByteArray).size ≤ 1000 by decide) (by decide)) (Nat.le_trans hdrz (by decide)) w'
              have hs1z : s1.size ≤ 1000 + 1000 := sz_add s1e (m := 1000) (show (⟨#[99, 111, 117, 110, 116, 32]⟩ : ByteArray).size ≤ 1000 by decide) hdrz
              obtain ⟨s2, s2e⟩ : ∃ q, s1 ++ (⟨#[32]⟩ : ByteArray) = q := ⟨_, rfl⟩
              have s2a : ∀ w', (Op.stringOp .add s1 ⟨#[32]⟩).run Tryz.prog w' = .ok (.string s2) w' := fun w' => by rw [← s2e]; exact add_any _ _ (Nat.le_trans hs1z (by decide)) (Nat.le_trans (show (⟨#[32]⟩ : ByteArray).size ≤ 1000 by decide) (by decide)) w'
              have hs2z : s2.size ≤ 2000 + 1000 := sz_add s2e (m := 2000) hs1z (show (⟨#[32]⟩ : ByteArray).size ≤ 1000 by decide)
              obtain ⟨s3, s3e⟩ : ∃ q, s2 ++ sz = q := ⟨_, rfl⟩
              have s3a : ∀ w', (Op.stringOp .add s2 sz).run Tryz.prog w' = .ok (.string s3) w' := fun w' => by rw [← s3e]; exact add_any _ _ (Nat.le_trans hs2z (by decide)) (Nat.le_trans hszz (by decide)) w'
              have hs3z : s3.size ≤ 3000 + 1000 := sz_add s3e (m := 3000) hs2z hszz
              obtain ⟨s4, s4e⟩ : ∃ q, s3 ++ (⟨#[32]⟩ : ByteArray) = q := ⟨_, rfl⟩
              have s4a : ∀ w', (Op.stringOp .add s3 ⟨#[32]⟩).run Tryz.prog w' = .ok (.string s4) w' := fun w' => by rw [← s4e]; exact add_any _ _ (Nat.le_trans hs3z (by decide)) (Nat.le_trans (show (⟨#[32]⟩ : ByteArray).size ≤ 1000 by decide) (by decide)) w'
              have hs4z : s4.size ≤ 4000 + 1000 := sz_add s4e (m := 4000) hs3z (show (⟨#[32]⟩ : ByteArray).size ≤ 1000 by decide)
              obtain ⟨s5, s5e⟩ : ∃ q, s4 ++ kq = q := ⟨_, rfl⟩
              have s5a : ∀ w', (Op.stringOp .add s4 kq).run Tryz.prog w' = .ok (.string s5) w' := fun w' => by rw [← s5e]; exact add_any _ _ (Nat.le_trans hs4z (by decide)) (Nat.le_trans hkqz (by decide)) w'
              have hs5z : s5.size ≤ 5000 + 1000 := sz_add s5e (m := 5000) hs4z hkqz
              have hNX : Hid (firstL ++ (qs.take (i + 1)).map (lineS u) = ls ++ [s5]) := by
                rw [Hid, next_line hqi.out HLS.out]
                congr 2
                unfold lineS
                simp only []
                rw [if_neg (by omega), if_neg (by omega), if_neg (by omega), if_neg (by omega), if_neg (by omega), if_pos (by omega)]
                rw [show drP ⟨x0, x1, x2, x3⟩ = dr from HDR.out, show szP ⟨x0, x1, x2, x3⟩ = sz from HSZ.out, HKQ.out]
                rw [← s5e, ← s4e, ← s3e, ← s2e, ← s1e]
                rfl
              clear er hr s1e s2e s3e s4e s5e
              go_wp2_with (first
              | (go_at_call 44; (with_reducible refine (HIQ.out _ hS.out.be).mono ?_); rintro e wi ⟨rfl, hbi⟩; have hSi := Lib.hid (hS.out.callee hbi); clear hbi)
              | (with_reducible show wpList _ _ _ (⟨_, .buildSlice 22 _ _, _, _, _, _⟩ :: _) _ _
                 refine wpList_lit1 rfl 22 9 _ (.string s5) rfl rfl (lit_str s5) ?_
                 intro w8 g8 hG8 hgr8 hge8
                 have hS8 := Lib.hid (hSi.out.callee (below_grown hgr8)))
              | (at_builtin
                 refine wpList_pushS rfl _ _ rfl rfl hS8.out.o g8 1 s5 rfl hG8 (Nat.le_trans HLN.out (by decide)) hS8.out.be.size ?_
                 intro g9 cap9 w9 hO9 hgr9 hat9 hlt9
                 have hB9 := Lib.hid (hS8.out.be.grown hgr9 hS8.out.be.size (fun g hg => hS8.out.o.ge hg))))
              go_roundw
              case rel => exact ⟨i + 1, by omega, by omega, by go_num, by rw [hNX.out]; simpa [OwnS] using hO9, hB9.out⟩
              case measure => simp only [intOf]; omega
          · -- [13]
            as_aux_lemma =>
              subst hg
              have er := hr
              have ei := (Int.ofNat_tmod x0 16).symm
              rw [hr] at ei
              simp only [Int.cast_ofNat_Int] at ei
              obtain ⟨s1, s1e⟩ : ∃ q, (⟨#[115, 104, 117, 116, 32]⟩ : ByteArray) ++ dr = q := ⟨_, rfl⟩
              have s1a : ∀ w', (Op.stringOp .add ⟨#[115, 104, 117, 116, 32]⟩ dr).run Tryz.prog w' = .ok (.string s1) w' := fun w' => by rw [← s1e]; exact add_any _ _ (Nat.le_trans (show (⟨#[115, 104, 117, 116, 32]⟩ : ByteArray).size ≤ 1000 by decide) (by decide)) (Nat.le_trans hdrz (by decide)) w'
              have hs1z : s1.size ≤ 1000 + 1000 := sz_add s1e (m := 1000) (show (⟨#[115, 104, 117, 116, 32]⟩ : ByteArray).size ≤ 1000 by decide) hdrz
              have hNX : Hid (firstL ++ (qs.take (i + 1)).map (lineS u) = ls ++ [s1]) := by
                rw [Hid, next_line hqi.out HLS.out]
                congr 2
                unfold lineS
                simp only []
                rw [if_neg (by omega), if_neg (by omega), if_neg (by omega), if_neg (by omega), if_neg (by omega), if_neg (by omega), if_pos (by omega)]
                rw [show drP ⟨x0, x1, x2, x3⟩ = dr from HDR.out]
                rw [← s1e]
              clear er hr s1e
              go_wp2_with (first
              | (with_reducible show wpList _ _ _ (⟨_, .buildSlice 22 _ _, _, _, _, _⟩ :: _) _ _
                 refine wpList_lit1 rfl 22 9 _ (.string s1) rfl rfl (lit_str s1) ?_
                 intro w8 g8 hG8 hgr8 hge8
                 have hS8 := Lib.hid (hS.out.callee (below_grown hgr8)))
              | (at_builtin
                 refine wpList_pushS rfl _ _ rfl rfl hS8.out.o g8 1 s1 rfl hG8 (Nat.le_trans HLN.out (by decide)) hS8.out.be.size ?_
                 intro g9 cap9 w9 hO9 hgr9 hat9 hlt9
                 have hB9 := Lib.hid (hS8.out.be.grown hgr9 hS8.out.be.size (fun g hg => hS8.out.o.ge hg))))
              go_roundw
              case rel => exact ⟨i + 1, by omega, by omega, by go_num, by rw [hNX.out]; simpa [OwnS] using hO9, hB9.out⟩
              case measure => simp only [intOf]; omega
          · -- [14]
            as_aux_lemma =>
              subst hg
              have er := hr
              have ei := (Int.ofNat_tmod x0 16).symm
              rw [hr] at ei
              simp only [Int.cast_ofNat_Int] at ei
              obtain ⟨s1, s1e⟩ : ∃ q, (⟨#[111, 112, 101, 110, 32]⟩ : ByteArray) ++ dr = q := ⟨_, rfl⟩
              have s1a : ∀ w', (Op.stringOp .add ⟨#[111, 112, 101, 110, 32]⟩ dr).run Tryz.prog w' = .ok (.string s1) w' := fun w' => by rw [← s1e]; exact add_any _ _ (Nat.le_trans (show (⟨#[111, 112, 101, 110, 32]⟩ : ByteArray).size ≤ 1000 by decide) (by decide)) (Nat.le_trans hdrz (by decide)) w'
              have hs1z : s1.size ≤ 1000 + 1000 := sz_add s1e (m := 1000) (show (⟨#[111, 112, 101, 110, 32]⟩ : ByteArray).size ≤ 1000 by decide) hdrz
              have hNX : Hid (firstL ++ (qs.take (i + 1)).map (lineS u) = ls ++ [s1]) := by
                rw [Hid, next_line hqi.out HLS.out]
                congr 2
                unfold lineS
                simp only []
                rw [if_neg (by omega), if_neg (by omega), if_neg (by omega), if_neg (by omega), if_neg (by omega), if_neg (by omega), if_neg (by omega), if_pos (by omega)]
                rw [show drP ⟨x0, x1, x2, x3⟩ = dr from HDR.out]
                rw [← s1e]
              clear er hr s1e
              go_wp2_with (first
              | (with_reducible show wpList _ _ _ (⟨_, .buildSlice 22 _ _, _, _, _, _⟩ :: _) _ _
                 refine wpList_lit1 rfl 22 9 _ (.string s1) rfl rfl (lit_str s1) ?_
                 intro w8 g8 hG8 hgr8 hge8
                 have hS8 := Lib.hid (hS.out.callee (below_grown hgr8)))
              | (at_builtin
                 refine wpList_pushS rfl _ _ rfl rfl hS8.out.o g8 1 s1 rfl hG8 (Nat.le_trans HLN.out (by decide)) hS8.out.be.size ?_
                 intro g9 cap9 w9 hO9 hgr9 hat9 hlt9
                 have hB9 := Lib.hid (hS8.out.be.grown hgr9 hS8.out.be.size (fun g hg => hS8.out.o.ge hg))))
              go_roundw
              case rel => exact ⟨i + 1, by omega, by omega, by go_num, by rw [hNX.out]; simpa [OwnS] using hO9, hB9.out⟩
              case measure => simp only [intOf]; omega
          · -- [15]
            as_aux_lemma =>
              subst hg
              have er := hr
              have ei := (Int.ofNat_tmod x0 16).symm
              rw [hr] at ei
              simp only [Int.cast_ofNat_Int] at ei
              cases u with
              | true =>
                have hNX : Hid (firstL ++ (qs.take (i + 1)).map (lineS true) = ls ++ [⟨#[117, 110, 100, 111]⟩]) := by
                  rw [Hid, next_line hqi.out HLS.out]
                  congr 2
                  unfold lineS
                  simp only []
                  rw [if_neg (by omega), if_neg (by omega), if_neg (by omega), if_neg (by omega), if_neg (by omega), if_neg (by omega), if_neg (by omega), if_neg (by omega), if_pos trivial]
                  rfl
                clear er hr
                go_wp2_with (first
              | (with_reducible show wpList _ _ _ (⟨_, .buildSlice 22 _ _, _, _, _, _⟩ :: _) _ _
                 refine wpList_lit1 rfl 22 9 _ (.string ⟨#[117, 110, 100, 111]⟩) rfl rfl (lit_str ⟨#[117, 110, 100, 111]⟩) ?_
                 intro w8 g8 hG8 hgr8 hge8
                 have hS8 := Lib.hid (hS.out.callee (below_grown hgr8)))
              | (at_builtin
                 refine wpList_pushS rfl _ _ rfl rfl hS8.out.o g8 1 ⟨#[117, 110, 100, 111]⟩ rfl hG8 (Nat.le_trans HLN.out (by decide)) hS8.out.be.size ?_
                 intro g9 cap9 w9 hO9 hgr9 hat9 hlt9
                 have hB9 := Lib.hid (hS8.out.be.grown hgr9 hS8.out.be.size (fun g hg => hS8.out.o.ge hg))))
                go_roundw
                case rel => exact ⟨i + 1, by omega, by omega, by go_num, by rw [hNX.out]; simpa [OwnS] using hO9, hB9.out⟩
                case measure => simp only [intOf]; omega
              | false =>
                obtain ⟨d4, hd4⟩ : ∃ q, oneP othersL x3 = q := ⟨_, rfl⟩
                have HD4 := Lib.hid hd4
                have hd4z : d4.size ≤ 1000 := by rw [← hd4]; exact one_short (by decide) _
                clear hd4 e3 e4 hw3
                obtain ⟨s1, s1e⟩ : ∃ q, (⟨#[100, 114, 97, 119, 101, 114, 32]⟩ : ByteArray) ++ d4 = q := ⟨_, rfl⟩
                have s1a : ∀ w', (Op.stringOp .add ⟨#[100, 114, 97, 119, 101, 114, 32]⟩ d4).run Tryz.prog w' = .ok (.string s1) w' := fun w' => by rw [← s1e]; exact add_any _ _ (Nat.le_trans (show (⟨#[100, 114, 97, 119, 101, 114, 32]⟩ : ByteArray).size ≤ 1000 by decide) (by decide)) (Nat.le_trans hd4z (by decide)) w'
                have hs1z : s1.size ≤ 1000 + 1000 := sz_add s1e (m := 1000) (show (⟨#[100, 114, 97, 119, 101, 114, 32]⟩ : ByteArray).size ≤ 1000 by decide) hd4z
                have hNX : Hid (firstL ++ (qs.take (i + 1)).map (lineS false) = ls ++ [s1]) := by
                  rw [Hid, next_line hqi.out HLS.out]
                  congr 2
                  unfold lineS
                  simp only []
                  rw [if_neg (by omega), if_neg (by omega), if_neg (by omega), if_neg (by omega), if_neg (by omega), if_neg (by omega), if_neg (by omega), if_neg (by omega), if_neg (by decide)]
                  rw [HD4.out]
                  rw [← s1e]
                clear er hr s1e
                go_wp2_with (fail)
                refine De.region_tree (fun b w' => bif b then (True) else (w'.cell? ⟨g5, 3, none⟩ = some (.int .u8 (x3 : Int)) ∧ True)) 8 5 (by kernel_rfl) (by kernel_rfl) (by decide) ⟨hS.out.c3, trivial⟩ ?_
                (try simp only [Act.put, De.l0, De.l1, De.l2])
                refine De.MidT.read 0 (by decide) (by simp only [De.g0, De.g1, De.g2]; rfl) (by kernel_rfl) (by kernel_rfl) (by kernel_rfl) (by kernel_rfl) (by intro w' hw'; obtain ⟨y1, _⟩ := hw'; go_simp; (try with_reducible rfl)) ?_
                (try simp only [Act.put, De.l0, De.l1, De.l2])
                refine De.MidT.read 3 (by decide) (by simp only [De.g0, De.g1, De.g2]; rfl) (by kernel_rfl) (by kernel_rfl) (by kernel_rfl) (by kernel_rfl) (by intro w' hw'; obtain ⟨y1, _⟩ := hw'; go_simp; (try with_reducible rfl)) ?_
                (try simp only [Act.put, De.l0, De.l1, De.l2])
                refine De.MidT.read 4 (by decide) (by simp only [De.g0, De.g1, De.g2]; rfl) (by kernel_rfl) (by kernel_rfl) (by kernel_rfl) (by kernel_rfl) (by intro w' hw'; obtain ⟨y1, _⟩ := hw'; go_simp; (try with_reducible rfl)) ?_
                (try simp only [Act.put, De.l0, De.l1, De.l2])
                (try refine De.MidT.tail ?_)
                refine De.Tr.one (i := 1) (by kernel_rfl) (by simp only [De.g0, De.g1, De.g2]; rfl) (by rfl) ?_
                refine wp_lit2 22 9 _ _ (.string ⟨#[109, 97, 114, 97, 98, 111, 117]⟩) (.string ⟨#[101, 103, 114, 101, 116]⟩) rfl rfl rfl (lit_str2 _ _) ?_
                intro wl gl hGl hgrl hgel
                have hSl := Lib.hid (hS.out.drew.callee (below_grown hgrl))
                refine ⟨⟨_, rfl⟩, ⟨hSl.out.c3, trivial⟩, ?_⟩
                (try simp only [Act.put, De.l0, De.l1, De.l2])
                (try refine De.MidT.tail ?_)
                refine De.Tr.one (i := 2) (by kernel_rfl) (by simp only [De.g0, De.g1, De.g2]; rfl) (by rfl) ?_
                refine wp_enterK 53 #[.slice (some ⟨gl, 0, none⟩) 2 2] (by go_simp) (list_same _ _) ?_
                rintro e wq ⟨rfl, hw⟩
                replace hw := hw.symm
                subst hw
                refine ⟨_, rfl, ⟨_, rfl⟩, ⟨hSl.out.c3, trivial⟩, ?_⟩
                (try simp only [Act.put, De.l0, De.l1, De.l2])
                (try refine De.MidT.tail ?_)
                refine De.Tr.one (i := 5) (by kernel_rfl) (by simp only [De.g0, De.g1, De.g2]; rfl) (by rfl) ?_
                refine wp_enterK 39 #[.slice (some ⟨gl, 0, none⟩) 2 2, .int .u8 (x3 : Int)] (by go_simp) (one_any (some ⟨gl, 0, none⟩) 2 2 othersL (rstrs_blk hGl rfl) (by decide) (by decide) x3 l3) ?_
                rintro e wq ⟨rfl, hw⟩
                replace hw := hw.symm
                subst hw
                rw [HD4.out]
                refine ⟨_, rfl, ⟨_, rfl⟩, ⟨hSl.out.c3, trivial⟩, ?_⟩
                (try simp only [Act.put, De.l0, De.l1, De.l2])
                refine De.MidT.read 6 (by decide) (by simp only [De.g0, De.g1, De.g2]; rfl) (by kernel_rfl) (by kernel_rfl) (by kernel_rfl) (by kernel_rfl) (by intro w' hw'; obtain ⟨y1, _⟩ := hw'; go_simp; (try with_reducible rfl)) ?_
                (try simp only [Act.put, De.l0, De.l1, De.l2])
                (try refine De.MidT.tail ?_)
                refine De.Tr.one (i := 7) (by kernel_rfl) (by simp only [De.g0, De.g1, De.g2]; rfl) (by rfl) ?_
                refine wp_lit1 22 9 _ (.string s1) rfl rfl (lit_str s1) ?_
                intro w8 g8 hG8 hgr8 hge8
                have hS8 := Lib.hid (hSl.out.callee (below_grown hgr8))
                refine ⟨⟨_, rfl⟩, ⟨hS8.out.c3, trivial⟩, ?_⟩
                (try simp only [Act.put, De.l0, De.l1, De.l2])
                (try refine De.MidT.tail ?_)
                refine De.Tr.one (i := 8) (by kernel_rfl) (by simp only [De.g0, De.g1, De.g2]; rfl) (by rfl) ?_
                refine wp_pushS _ _ rfl rfl hS8.out.o g8 1 s1 rfl hG8 (Nat.le_trans HLN.out (by decide)) hS8.out.be.size ?_
                intro g9 cap9 w9 hO9 hgr9 hat9 hlt9
                have hB9 := Lib.hid (hS8.out.be.grown hgr9 hS8.out.be.size (fun g hg => hS8.out.o.ge hg))
                refine ⟨⟨_, rfl⟩, trivial, ?_⟩
                (try simp only [Act.put, De.l0, De.l1, De.l2])
                refine De.MidT.read2 9 (by decide) (by simp only [De.g0, De.g1, De.g2]; rfl) (by kernel_rfl) (by kernel_rfl) (by kernel_rfl) (by intro b w' hw'; clear hw'; go_simp; (try with_reducible rfl)) ?_
                (try simp only [Act.put, De.l0, De.l1, De.l2])
                (try refine De.MidT.tail ?_)
                refine De.Tr.done (by kernel_rfl) ?_
                (try simp only [Act.put, De.l0, De.l1, De.l2])
                go_wp2_with (fail)
                go_roundw
                case rel => exact ⟨i + 1, by omega, by omega, by go_num, by rw [hNX.out]; simpa [OwnS] using hO9, hB9.out⟩
                case measure => simp only [intOf]; omega
      · have h24i : (24 : Int) ≤ i := by omega
        obtain rfl : i = 24 := by omega
        have HE : Hid (OwnS wr w.heap.size u5 (seasonL u qs)) := hO
        have HBE := Lib.hid hB
        clear hO hB
        go_wp2_with (first
          | (with_reducible show wpList _ _ _ (⟨_, .load 114 _, _, _, _, _⟩ :: _) _ _
             refine wpList_load_mid rfl 114 _ rfl b (o + 24 * 4) rfl _ _ hr Tryz.underlying114 rfl (by kernel_rfl) ?_))
        go_ret
        have hb5 := (Below.refl wr.heap.size wr).alloc (Nat.le_refl _) (.cells #[.int .u8 (x0 : Int), .int .u8 (x1 : Int), .int .u8 (x2 : Int), .int .u8 (x3 : Int)] 114)
        exact ⟨_, rfl, ownS_mono0 (HE.out.callee hb5), fun g hg => HE.out.ge (by rw [own_blkS (ownS_mono0 HE.out)]; exact hg), HBE.out.trans (hb5.mono HBE.out.size)⟩
    · obtain rfl : i = n := by omega
      have hlti : ¬ (i : Int) < i := by omega
      have HE : Hid (OwnS wr w.heap.size u5 (seasonL u qs)) := by
        have hl : qs.length = i := HQ.out.1
        rw [Hid, seasonL, List.take_of_length_le (by omega)]
        rwa [List.take_of_length_le (by omega)] at hO
      have HBE := Lib.hid hB
      clear hO hB
      go_wp2_with (fail)
      go_ret
      exact ⟨_, rfl, ownS_mono0 HE.out, fun g hg => HE.out.ge (by rw [own_blkS (ownS_mono0 HE.out)]; exact hg), HBE.out⟩
end
end Dr
end Go.Proofs.YtbgakdpbglpfaaaGreatDoor
