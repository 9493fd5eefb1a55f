/- DresserMore: if more is bought: the law, walked. -/
import Derived.Test.YtbgakdpbglpfaaaGreatDoorJml
import Derived.Test.YtbgakdpbglpfaaaGreatDoorDuP
import Derived.Test.YtbgakdpbglpfaaaGreatDoorDuF
import Derived.Test.YtbgakdpbglpfaaaGreatDoorJcd
namespace Go.Proofs.YtbgakdpbglpfaaaGreatDoor
open Go.RowKit
namespace Dr
set_option linter.unusedSimpArgs false
/-- ways that meet again -/
theorem two_ways2 {K : Act → World → Prop} {S : World → Prop} {G : Prop} (x : Addr → Nat → Act) (main : (∀ ad g w, S w → K (x ad g) w) → G) (later : ∀ ad g w, S w → K (x ad g) w) : G := main later
theorem RStrs.at_later {w w' : World} {P : Option Addr} {n : Nat} {ls : List ByteArray} (h : RStrs w w.heap.size P n ls) (hb : Below w.heap.size w w') : RStrs w' w'.heap.size P n ls := (h.later (Nat.le_refl _) hb).more hb.size
theorem bytes_below (w : World) (e : TypeId) (s : ByteArray) : Below w.heap.size w (Lib.bytesWorld w e s) :=
  ⟨rfl, rfl, rfl, by rw [Lib.bytesWorld_size]; omega, fun j hj => Lib.bytesWorld_at_old w e s j hj⟩
section
variable {w : World}
set_option maxRecDepth 100000 in
set_option maxHeartbeats 40000000 in
theorem more_law (P : Option Addr) (n c : Nat) (qs : List Quad) (xw xs xm : Nat) (w : World) (T : Tabs w) (hq : RQuads w w.heap.size P n qs) (hn : n ≤ maxLen) (lw : xw < 256) (lx : xs < 256) (lm : xm < 256) :
    Calls Tryz.prog 13 #[.slice P n c, .int .u8 (xw : Int), .int .u8 (xs : Int), .int .u8 (xm : Int)] w fun e w' => e = .returned (.bool true) ∧ Below w.heap.size w w' := by
  have HT := Lib.hid T
  have HWO := Lib.hid (fun (w' : World) (hb : Below w.heap.size w w') => works_any w' (T.below hb))
  have HQ := Lib.hid hq
  have HN := Lib.hid hn
  have HSB := Lib.hid (season_book qs)
  obtain ⟨l1, hl1⟩ : ∃ q, seasonL false qs = q := ⟨_, rfl⟩
  rw [hl1] at HSB
  have h30 : Hid (l1.length ≤ 1000) := by rw [Hid, ← hl1]; exact Nat.le_trans (season_le _ _) (by decide)
  have HL1 := Lib.hid hl1
  obtain ⟨B, hB⟩ : ∃ q, bookP l1 = q := ⟨_, rfl⟩
  rw [hB] at HSB
  have HBB := Lib.hid hB
  clear T hq hn hl1 hB
  go_enter Tryz.func13, Tryz.ntmps13
  go_upto_region 2 with (first
    | (go_at_call 37; (with_reducible refine (season_any HT.out P n c qs HQ.out HN.out false).mono ?_)
       rintro e w1 ⟨v1, rfl, hO1, _, hb1⟩
       rw [HL1.out] at hO1
       obtain ⟨P1, c1, rfl, hr1⟩ := OwnS.reads hO1
       obtain ⟨n1, hn1⟩ : ∃ q, l1.length = q := ⟨_, rfl⟩
       rw [hn1]
       rw [hn1] at hr1
       have HN1 : Hid (n1 ≤ 1000) := by rw [Hid, ← hn1]; exact h30.out
       have HR1 := Lib.hid hr1
       have HB1 := Lib.hid hb1
       clear hO1 hr1 hb1 hn1)
    | (go_at_call 36; (with_reducible refine (book_any (HT.out.below HB1.out) P1 n1 c1 l1 HN1.out HR1.out).mono ?_)
       rintro e w2 ⟨gb, rfl, hB2⟩
       rw [HBB.out] at hB2
       have HB2 := Lib.hid (hB2.base HB1.out)
       clear hB2))
  obtain ⟨j2, hj2⟩ : ∃ q, xs % 4 = q := ⟨_, rfl⟩
  have hj4 : j2 < 4 := by omega
  have e2 : Int.tmod (xs : Int) 4 = (j2 : Int) := by rw [← hj2]; exact (Int.ofNat_tmod xs 4).symm
  have b2 : (j2 : Int) < 4 := by omega
  have b3 : (0 : Int) ≤ j2 := by omega
  have m2 : (0 : Int) ≤ xs := by omega
  have m2' : (xs : Int) < 256 := by omega
  obtain ⟨sz, hsz⟩ : ∃ q, sizesL[j2]? = some q := ⟨_, List.getElem?_eq_getElem (by show j2 < 4; omega)⟩
  have HSZ : Hid (sizesL.getD j2 ⟨#[]⟩ = sz) := by rw [Hid, List.getD_eq_getElem?_getD, hsz]; rfl
  have HSI : Hid ((strsV sizesL).toArray[j2]? = some (.string sz)) := by rw [Hid, List.getElem?_toArray, strsV, List.getElem?_map, hsz]; rfl
  obtain ⟨dr, hdr⟩ : ∃ q, oneP drawersL xw = q := ⟨_, rfl⟩
  have HDR := Lib.hid hdr
  have HOA := Lib.hid (fun (w : World) (ad : Addr) (hr : RStrs w w.heap.size (some ad) 2 drawersL) => one_any (some ad) 2 2 drawersL hr (by decide) (by decide) xw lw)
  rw [hdr] at HOA
  clear hj2 hsz hdr
  go_wp2_with (fail)
  rename_i K7 a7
  apply two_ways2 (K := K7) (S := fun w6 => Bk w w6 gb B)
  case main =>
    intro hk7
    refine De.region_tree (fun b w' => bif b then (True) else (True ∧ True)) 8 5 (by kernel_rfl) (by kernel_rfl) (by decide) ⟨trivial, trivial⟩ ?_
    (try simp only [Act.put, De.l0, De.l1, De.l2])
    refine De.MidT.read2 1 (by decide) (by simp only [De.g0, De.g1, De.g2]; rfl) (by kernel_rfl) (by kernel_rfl) (by kernel_rfl) (by intro b w' hw'; clear hw'; go_simp; (try with_reducible rfl)) ?_
    (try simp only [Act.put, De.l0, De.l1, De.l2])
    refine De.MidT.read2 5 (by decide) (by simp only [De.g0, De.g1, De.g2]; rfl) (by kernel_rfl) (by kernel_rfl) (by kernel_rfl) (by intro b w' hw'; clear hw'; go_simp; (try with_reducible rfl)) ?_
    (try simp only [Act.put, De.l0, De.l1, De.l2])
    refine De.MidT.read2 6 (by decide) (by simp only [De.g0, De.g1, De.g2]; rfl) (by kernel_rfl) (by kernel_rfl) (by kernel_rfl) (by intro b w' hw'; clear hw'; go_simp; (try with_reducible rfl)) ?_
    (try simp only [Act.put, De.l0, De.l1, De.l2])
    (try refine De.MidT.tail ?_)
    refine De.Tr.two (i := 0) (j := 3) (by kernel_rfl) (by simp only [De.g0, De.g1, De.g2]; rfl) (by rfl) (by simp only [De.g0, De.g1, De.g2]; rfl) (by rfl) ?_ ?_
    · refine wp_enterK 40 #[] (by go_simp) (drawers_list _) ?_
      rintro e wa ⟨ad, rfl, hra, hba⟩
      have HBa := Lib.hid ((HB2.out.callee (Below.refl _ _).drew).callee hba)
      refine ⟨_, rfl, ⟨_, rfl⟩, ⟨trivial, trivial⟩, ?_⟩
      (try simp only [Act.put, De.l0, De.l1, De.l2])
      (try refine De.MidT.tail ?_)
      refine De.Tr.two (i := 2) (j := 3) (by kernel_rfl) (by simp only [De.g0, De.g1, De.g2]; rfl) (by rfl) (by simp only [De.g0, De.g1, De.g2]; rfl) (by rfl) ?_ ?_
      · refine wp_enterK 39 #[.slice (some ad) 2 2, .int .u8 (xw : Int)] (by go_simp) (HOA.out _ ad hra) ?_
        rintro e wq ⟨rfl, hw⟩
        replace hw := hw.symm
        subst hw
        refine ⟨_, rfl, ⟨_, rfl⟩, ⟨trivial, trivial⟩, ?_⟩
        (try simp only [Act.put, De.l0, De.l1, De.l2])
        (try refine De.MidT.tail ?_)
        refine De.Tr.one (i := 3) (by kernel_rfl) (by simp only [De.g0, De.g1, De.g2]; rfl) (by rfl) ?_
        refine wp_lit4 22 9 _ _ _ _ (.string ⟨#[50]⟩) (.string ⟨#[51]⟩) (.string ⟨#[53]⟩) (.string ⟨#[55]⟩) rfl rfl rfl rfl rfl (lit_str4 _ _ _ _) ?_
        intro w6 g6 hG6 hgr6 hge6
        have HB6 := Lib.hid (HBa.out.callee (below_grown hgr6))
        refine ⟨⟨_, rfl⟩, ⟨trivial, trivial⟩, ?_⟩
        (try simp only [Act.put, De.l0, De.l1, De.l2])
        (try refine De.MidT.tail ?_)
        refine De.Tr.one (i := 4) (by kernel_rfl) (by simp only [De.g0, De.g1, De.g2]; rfl) (by rfl) ?_
        refine wp_enterK 53 #[.slice (some ⟨g6, 0, none⟩) 4 4] (by go_simp) (list_same _ _) ?_
        rintro e wq ⟨rfl, hw⟩
        replace hw := hw.symm
        subst hw
        refine ⟨_, rfl, ⟨_, rfl⟩, ⟨trivial, trivial⟩, ?_⟩
        (try simp only [Act.put, De.l0, De.l1, De.l2])
        refine De.MidT.read2 7 (by decide) (by simp only [De.g0, De.g1, De.g2]; rfl) (by kernel_rfl) (by kernel_rfl) (by kernel_rfl) (by intro b w' hw'; clear hw'; go_simp; (try with_reducible rfl)) ?_
        (try simp only [Act.put, De.l0, De.l1, De.l2])
        refine De.MidT.read2 9 (by decide) (by simp only [De.g0, De.g1, De.g2]; rfl) (by kernel_rfl) (by kernel_rfl) (by kernel_rfl) (by intro b w' hw'; clear hw'; go_simp; (try with_reducible rfl)) ?_
        (try simp only [Act.put, De.l0, De.l1, De.l2])
        have cz6 : w6.cell? ⟨g6, j2, none⟩ = some (.string sz) := hG6.at_ j2 HSI.out
        (try simp only [Act.put, De.l0, De.l1, De.l2])
        (try refine De.MidT.tail ?_)
        refine De.Tr.one (i := 8) (by kernel_rfl) (by simp only [De.g0, De.g1, De.g2]; rfl) (by rfl) ?_
        refine De.wp_pure (.string sz) (by go_simp) ?_
        refine ⟨⟨_, rfl⟩, trivial, ?_⟩
        (try simp only [Act.put, De.l0, De.l1, De.l2])
        refine De.MidT.read2 10 (by decide) (by simp only [De.g0, De.g1, De.g2]; rfl) (by kernel_rfl) (by kernel_rfl) (by kernel_rfl) (by intro b w' hw'; clear hw'; go_simp; (try with_reducible rfl)) ?_
        (try simp only [Act.put, De.l0, De.l1, De.l2])
        (try refine De.MidT.tail ?_)
        refine De.Tr.done (by kernel_rfl) ?_
        (try simp only [Act.put, De.l0, De.l1, De.l2])
        exact hk7 ad g6 _ HB6.out
      · refine wp_lit4 22 9 _ _ _ _ (.string ⟨#[50]⟩) (.string ⟨#[51]⟩) (.string ⟨#[53]⟩) (.string ⟨#[55]⟩) rfl rfl rfl rfl rfl (lit_str4 _ _ _ _) ?_
        intro w6 g6 hG6 hgr6 hge6
        have HB6 := Lib.hid (HBa.out.callee (below_grown hgr6))
        have hrc := RStrs.at_later hra (below_grown hgr6)
        refine ⟨⟨_, rfl⟩, ⟨trivial, trivial⟩, ?_⟩
        (try simp only [Act.put, De.l0, De.l1, De.l2])
        (try refine De.MidT.tail ?_)
        refine De.Tr.one (i := 2) (by kernel_rfl) (by simp only [De.g0, De.g1, De.g2]; rfl) (by rfl) ?_
        refine wp_enterK 39 #[.slice (some ad) 2 2, .int .u8 (xw : Int)] (by go_simp) (HOA.out _ ad hrc) ?_
        rintro e wq ⟨rfl, hw⟩
        replace hw := hw.symm
        subst hw
        refine ⟨_, rfl, ⟨_, rfl⟩, ⟨trivial, trivial⟩, ?_⟩
        (try simp only [Act.put, De.l0, De.l1, De.l2])
        (try refine De.MidT.tail ?_)
        refine De.Tr.one (i := 4) (by kernel_rfl) (by simp only [De.g0, De.g1, De.g2]; rfl) (by rfl) ?_
        refine wp_enterK 53 #[.slice (some ⟨g6, 0, none⟩) 4 4] (by go_simp) (list_same _ _) ?_
        rintro e wq ⟨rfl, hw⟩
        replace hw := hw.symm
        subst hw
        refine ⟨_, rfl, ⟨_, rfl⟩, ⟨trivial, trivial⟩, ?_⟩
        (try simp only [Act.put, De.l0, De.l1, De.l2])
        refine De.MidT.read2 7 (by decide) (by simp only [De.g0, De.g1, De.g2]; rfl) (by kernel_rfl) (by kernel_rfl) (by kernel_rfl) (by intro b w' hw'; clear hw'; go_simp; (try with_reducible rfl)) ?_
        (try simp only [Act.put, De.l0, De.l1, De.l2])
        refine De.MidT.read2 9 (by decide) (by simp only [De.g0, De.g1, De.g2]; rfl) (by kernel_rfl) (by kernel_rfl) (by kernel_rfl) (by intro b w' hw'; clear hw'; go_simp; (try with_reducible rfl)) ?_
        (try simp only [Act.put, De.l0, De.l1, De.l2])
        have cz6 : w6.cell? ⟨g6, j2, none⟩ = some (.string sz) := hG6.at_ j2 HSI.out
        (try simp only [Act.put, De.l0, De.l1, De.l2])
        (try refine De.MidT.tail ?_)
        refine De.Tr.one (i := 8) (by kernel_rfl) (by simp only [De.g0, De.g1, De.g2]; rfl) (by rfl) ?_
        refine De.wp_pure (.string sz) (by go_simp) ?_
        refine ⟨⟨_, rfl⟩, trivial, ?_⟩
        (try simp only [Act.put, De.l0, De.l1, De.l2])
        refine De.MidT.read2 10 (by decide) (by simp only [De.g0, De.g1, De.g2]; rfl) (by kernel_rfl) (by kernel_rfl) (by kernel_rfl) (by intro b w' hw'; clear hw'; go_simp; (try with_reducible rfl)) ?_
        (try simp only [Act.put, De.l0, De.l1, De.l2])
        (try refine De.MidT.tail ?_)
        refine De.Tr.done (by kernel_rfl) ?_
        (try simp only [Act.put, De.l0, De.l1, De.l2])
        exact hk7 ad g6 _ HB6.out
    · refine wp_lit4 22 9 _ _ _ _ (.string ⟨#[50]⟩) (.string ⟨#[51]⟩) (.string ⟨#[53]⟩) (.string ⟨#[55]⟩) rfl rfl rfl rfl rfl (lit_str4 _ _ _ _) ?_
      intro w6 g6 hG6 hgr6 hge6
      have HB6 := Lib.hid ((HB2.out.callee (Below.refl _ _).drew).callee (below_grown hgr6))
      refine ⟨⟨_, rfl⟩, ⟨trivial, trivial⟩, ?_⟩
      (try simp only [Act.put, De.l0, De.l1, De.l2])
      (try refine De.MidT.tail ?_)
      refine De.Tr.one (i := 0) (by kernel_rfl) (by simp only [De.g0, De.g1, De.g2]; rfl) (by rfl) ?_
      refine wp_enterK 40 #[] (by go_simp) (drawers_list _) ?_
      rintro e wa ⟨ad, rfl, hra, hba⟩
      have HBa := Lib.hid (HB6.out.callee hba)
      refine ⟨_, rfl, ⟨_, rfl⟩, ⟨trivial, trivial⟩, ?_⟩
      (try simp only [Act.put, De.l0, De.l1, De.l2])
      (try refine De.MidT.tail ?_)
      refine De.Tr.one (i := 2) (by kernel_rfl) (by simp only [De.g0, De.g1, De.g2]; rfl) (by rfl) ?_
      refine wp_enterK 39 #[.slice (some ad) 2 2, .int .u8 (xw : Int)] (by go_simp) (HOA.out _ ad hra) ?_
      rintro e wq ⟨rfl, hw⟩
      replace hw := hw.symm
      subst hw
      refine ⟨_, rfl, ⟨_, rfl⟩, ⟨trivial, trivial⟩, ?_⟩
      (try simp only [Act.put, De.l0, De.l1, De.l2])
      (try refine De.MidT.tail ?_)
      refine De.Tr.one (i := 4) (by kernel_rfl) (by simp only [De.g0, De.g1, De.g2]; rfl) (by rfl) ?_
      refine wp_enterK 53 #[.slice (some ⟨g6, 0, none⟩) 4 4] (by go_simp) (list_same _ _) ?_
      rintro e wq ⟨rfl, hw⟩
      replace hw := hw.symm
      subst hw
      refine ⟨_, rfl, ⟨_, rfl⟩, ⟨trivial, trivial⟩, ?_⟩
      (try simp only [Act.put, De.l0, De.l1, De.l2])
      refine De.MidT.read2 7 (by decide) (by simp only [De.g0, De.g1, De.g2]; rfl) (by kernel_rfl) (by kernel_rfl) (by kernel_rfl) (by intro b w' hw'; clear hw'; go_simp; (try with_reducible rfl)) ?_
      (try simp only [Act.put, De.l0, De.l1, De.l2])
      refine De.MidT.read2 9 (by decide) (by simp only [De.g0, De.g1, De.g2]; rfl) (by kernel_rfl) (by kernel_rfl) (by kernel_rfl) (by intro b w' hw'; clear hw'; go_simp; (try with_reducible rfl)) ?_
      (try simp only [Act.put, De.l0, De.l1, De.l2])
      have cz6 : wa.cell? ⟨g6, j2, none⟩ = some (.string sz) := (hG6.callee hba).at_ j2 HSI.out
      (try simp only [Act.put, De.l0, De.l1, De.l2])
      (try refine De.MidT.tail ?_)
      refine De.Tr.one (i := 8) (by kernel_rfl) (by simp only [De.g0, De.g1, De.g2]; rfl) (by rfl) ?_
      refine De.wp_pure (.string sz) (by go_simp) ?_
      refine ⟨⟨_, rfl⟩, trivial, ?_⟩
      (try simp only [Act.put, De.l0, De.l1, De.l2])
      refine De.MidT.read2 10 (by decide) (by simp only [De.g0, De.g1, De.g2]; rfl) (by kernel_rfl) (by kernel_rfl) (by kernel_rfl) (by intro b w' hw'; clear hw'; go_simp; (try with_reducible rfl)) ?_
      (try simp only [Act.put, De.l0, De.l1, De.l2])
      (try refine De.MidT.tail ?_)
      refine De.Tr.done (by kernel_rfl) ?_
      (try simp only [Act.put, De.l0, De.l1, De.l2])
      exact hk7 ad g6 _ HBa.out
  case later =>
    intro ad g6 w6 hB6
    have HB6 := Lib.hid hB6
    obtain ⟨i2, hi2⟩ : ∃ q, xw % 2 = q := ⟨_, rfl⟩
    have HDI : Hid (drawersL.getD i2 ⟨#[]⟩ = dr) := by rw [Hid, ← HDR.out, ← hi2]; rfl
    have hi22 : i2 < 2 := by omega
    have hmem : dr ∈ drawersL := by
      rw [← HDI.out]
      rcases (by omega : i2 = 0 ∨ i2 = 1) with rfl | rfl
      · exact List.mem_cons_self
      · exact List.mem_cons_of_mem _ List.mem_cons_self
    obtain ⟨ch, hch⟩ := Option.isSome_iff_exists.1 (HSB.out.2 dr hmem)
    have hok := HB6.out.inv.inv.ok dr ch hch
    obtain ⟨j40, hj40⟩ : ∃ q, xm % 40 = q := ⟨_, rfl⟩
    have e40 : Int.tmod (xm : Int) 40 = (j40 : Int) := by rw [← hj40]; exact (Int.ofNat_tmod xm 40).symm
    obtain ⟨k40, hk40⟩ : ∃ q, j40 + 1 = q := ⟨_, rfl⟩
    have e41 : (1 : Int) + (j40 : Int) = (k40 : Int) := by omega
    have m4 : (0 : Int) ≤ xm := by omega
    have m4' : (xm : Int) < 256 := by omega
    have hcs := buy_cases (B := B) (x := buyB dr sz k40) (o := openB dr) (s := sizeN j2) (k := k40) (by
      have h := read_buy i2 hi22 j2 hj4 j40 (by omega)
      rw [HDI.out, HSZ.out, hk40] at h
      exact h) (by
      have h := read_open i2 hi22
      rw [HDI.out] at h
      exact h) HSB.out.1 hch (by omega) hok
    obtain ⟨sn, hsn⟩ : ∃ q, sizeN j2 = q := ⟨_, rfl⟩
    have hat := atoi_size j2 hj4
    rw [HSZ.out, hsn] at hat
    rw [hsn] at hcs
    have hsn7 : sn ≤ 7 := by
      rw [← hsn]
      rcases (by omega : j2 = 0 ∨ j2 = 1 ∨ j2 = 2 ∨ j2 = 3) with rfl | rfl | rfl | rfl <;> decide
    have hk41 : k40 ≤ 40 := by omega
    have HCS := Lib.hid hcs
    have HAT := Lib.hid hat
    clear hcs hat hsn hi2 hB6 hj40
    have HNa := Lib.hid (Bn.of HB6.out)
    obtain ⟨xs, hxs⟩ : ∃ q, couldC ch = q := ⟨_, rfl⟩
    obtain ⟨ys, hys⟩ : ∃ q, ch.sizes = q := ⟨_, rfl⟩
    have HC0 : Hid (B.ask dr [] couldC = (xs, 0)) := by rw [Hid, ← hxs]; unfold Book.ask; rw [hch]
    have HZ0 : Hid (B.ask dr [] (·.sizes) = (ys, 0)) := by rw [Hid, ← hys]; unfold Book.ask; rw [hch]
    have hszl : sz.size ≤ 1 := by
      rw [← HSZ.out]
      rcases (by omega : j2 = 0 ∨ j2 = 1 ∨ j2 = 2 ∨ j2 = 3) with rfl | rfl | rfl | rfl <;> exact Nat.le_refl 1
    have hdrz : dr.size ≤ 1000 := by rw [← HDR.out]; exact one_short (by decide) _
    have HATI : Hid (∀ w', Calls Tryz.prog 57 #[.string sz] w' fun e w'' => e = .returned (.tuple #[.int .i64 (sn : Int), .nilIface]) ∧ Below w'.heap.size w' w'') := fun w' => by
      refine (Tryz.strconv_Atoi sz (sn : Int) (by omega) HAT.out w').mono ?_
      rintro e w'' ⟨rfl, t, rfl⟩
      exact ⟨rfl, bytes_below _ _ _⟩
    obtain ⟨kb, hkb⟩ : ∃ q, kB k40 = q := ⟨_, rfl⟩
    have HIT : Hid (∀ w', Below w.heap.size w w' → Calls Tryz.prog 44 #[.int .i64 (k40 : Int)] w' fun e w'' => e = .returned (.string kb) ∧ Below w'.heap.size w' w'') := fun w' hb => by
      rw [← hkb]
      exact itoa_any k40 (by omega) (HT.out.below hb).2
    have hkbz : kb.size ≤ 1000 := by
      rw [← hkb, kB, ← byts_len, byts_bstr]
      exact Nat.le_trans (dec_len k40 (by omega)) (by decide)
    obtain ⟨s1, s1e⟩ : ∃ q, (⟨#[98, 117, 121, 32]⟩ : ByteArray) ++ dr = q := ⟨_, rfl⟩
    obtain ⟨s2, s2e⟩ : ∃ q, s1 ++ (⟨#[32]⟩ : ByteArray) = q := ⟨_, rfl⟩
    obtain ⟨s3, s3e⟩ : ∃ q, s2 ++ sz = q := ⟨_, rfl⟩
    obtain ⟨s4, s4e⟩ : ∃ q, s3 ++ (⟨#[32]⟩ : ByteArray) = q := ⟨_, rfl⟩
    obtain ⟨s5, s5e⟩ : ∃ q, s4 ++ kb = q := ⟨_, rfl⟩
    obtain ⟨so, soe⟩ : ∃ q, (⟨#[111, 112, 101, 110, 32]⟩ : ByteArray) ++ dr = q := ⟨_, rfl⟩
    have h1z : s1.size ≤ 1000 + 1000 := sz_add s1e (show (⟨#[98, 117, 121, 32]⟩ : ByteArray).size ≤ 1000 by decide) hdrz
    have h2z : s2.size ≤ 2000 + 1000 := sz_add s2e h1z (show (⟨#[32]⟩ : ByteArray).size ≤ 1000 by decide)
    have h3z : s3.size ≤ 3000 + 1000 := sz_add s3e h2z (by omega)
    have h4z : s4.size ≤ 4000 + 1000 := sz_add s4e h3z (show (⟨#[32]⟩ : ByteArray).size ≤ 1000 by decide)
    have s1a : ∀ w', (Op.stringOp .add ⟨#[98, 117, 121, 32]⟩ dr).run Tryz.prog w' = .ok (.string s1) w' := fun w' => by rw [← s1e]; exact add_any _ _ (show (⟨#[98, 117, 121, 32]⟩ : ByteArray).size ≤ 10000 by decide) (by omega) w'
    have s2a : ∀ w', (Op.stringOp .add s1 ⟨#[32]⟩).run Tryz.prog w' = .ok (.string s2) w' := fun w' => by rw [← s2e]; exact add_any _ _ (by omega) (show (⟨#[32]⟩ : ByteArray).size ≤ 10000 by decide) w'
    have s3a : ∀ w', (Op.stringOp .add s2 sz).run Tryz.prog w' = .ok (.string s3) w' := fun w' => by rw [← s3e]; exact add_any _ _ (by omega) (by omega) w'
    have s4a : ∀ w', (Op.stringOp .add s3 ⟨#[32]⟩).run Tryz.prog w' = .ok (.string s4) w' := fun w' => by rw [← s4e]; exact add_any _ _ (by omega) (show (⟨#[32]⟩ : ByteArray).size ≤ 10000 by decide) w'
    have s5a : ∀ w', (Op.stringOp .add s4 kb).run Tryz.prog w' = .ok (.string s5) w' := fun w' => by rw [← s5e]; exact add_any _ _ (by omega) (by omega) w'
    have soa : ∀ w', (Op.stringOp .add ⟨#[111, 112, 101, 110, 32]⟩ dr).run Tryz.prog w' = .ok (.string so) w' := fun w' => by rw [← soe]; exact add_any _ _ (show (⟨#[111, 112, 101, 110, 32]⟩ : ByteArray).size ≤ 10000 by decide) (by omega) w'
    have el : buyB dr sz k40 = s5 := by rw [← s5e, ← s4e, ← s3e, ← s2e, ← s1e, ← hkb]; rfl
    have eo : openB dr = so := by rw [← soe]; rfl
    have hcs := HCS.out
    rw [el, eo, hxs, hys] at hcs
    have hw40 : IntKind.i64.wrap (k40 : Int) = k40 := IntWalk.i64_in _ (by omega)
    have HCH := Lib.hid hch
    clear HCS el eo s1e s2e s3e s4e s5e soe h1z h2z h3z h4z hkbz hszl hkb HB6 hok hxs hys hch
    refine a7 _ _ ?_
    rcases hcs with ⟨h1, c', h2, h3, h4⟩ | ⟨h1, h2, h3⟩ | ⟨h1, h2, h3, h4⟩ | ⟨h1, h2, h3, h4⟩
    · obtain ⟨zs, hzs⟩ : ∃ q, couldC c' = q := ⟨_, rfl⟩
      rw [hzs] at h3 h4
      obtain ⟨B', hB'⟩ : ∃ q, B.done s5 = q := ⟨_, rfl⟩
      rw [hB'] at h2
      have HC1 : Hid (B'.ask dr [] couldC = (zs, 0)) := by rw [Hid, ← hzs]; unfold Book.ask; rw [h2]
      have HW := Lib.hid h1
      have HD := Lib.hid hB'
      have H3 := Lib.hid h3
      have H4 := Lib.hid h4
      have HLX : Hid (∀ y ∈ xs, y ≤ 1000) := by
        intro y hy
        have h := HC0.out
        unfold Book.ask at h
        rw [HCH.out] at h
        injection h with h _
        rw [← h] at hy
        unfold couldC at hy
        split at hy
        · rw [List.mem_singleton.1 hy]; omega
        · have := List.mem_range.1 (List.mem_filter.1 hy).1
          omega
      clear h1 h2 h3 h4 hzs hB'
      go_upto_region 12 with (first
        | (go_at_call 31; (with_reducible refine (bn_could HNa.out dr HC0.out).mono ?_); rintro e wk ⟨vc, rfl, h⟩; have HNb := Lib.hid h; clear h HNa)
        | (go_at_call 28; (with_reducible refine (bn_sizes HNb.out dr HZ0.out).mono ?_); rintro e wk ⟨vs, rfl, h⟩; have HNc := Lib.hid h; clear h HNb)
        | (go_at_call 57; (with_reducible refine (HATI.out _).mono ?_); rintro e wk ⟨rfl, hbk⟩; have HNd := Lib.hid (HNc.out.callee hbk); clear hbk HNc)
        | (go_at_call 44; (with_reducible refine (HIT.out _ HNd.out.bk.below).mono ?_); rintro e wk ⟨rfl, hbk⟩; have HNe := Lib.hid (HNd.out.callee hbk); clear hbk HNd)
        | (go_at_call 20; (with_reducible refine (bn_do HT.out HNe.out s5 HW.out HD.out).mono ?_); rintro e wk ⟨rfl, h⟩; have HNf := Lib.hid h; clear h HNe)
        | (go_at_call 31; (with_reducible refine (bn_could HNf.out dr HC1.out).mono ?_); rintro e wk ⟨vd, rfl, h⟩; have HNg := Lib.hid h; clear h HNf))
      obtain ⟨Pc, cc, hvc, hcap, hcm, hrc, hPc⟩ := ownN_form (HNg.out.n (vc, xs) (by simp))
      replace hvc : vc = .slice Pc xs.length cc := hvc
      subst hvc
      obtain ⟨nx, hnx⟩ : ∃ q, xs.length = q := ⟨_, rfl⟩
      rw [hnx] at hcap hrc HNg
      rw [hnx]
      unfold maxLen at hcm
      have HNX := Lib.hid hnx
      have HRC := Lib.hid hrc
      clear hnx hrc hPc
      go_wp2_with (fail)
      go_loopw [120] (fun v wr => ∃ i : Nat, i ≤ nx ∧ v = .int .i64 i ∧ wk = wr) (fun v _ => nx - (intOf v).toNat)
      case atStart => exact ⟨0, Nat.zero_le _, rfl, rfl⟩
      case round =>
        obtain ⟨i, hi, rfl, hw⟩ := hrel
        subst hw
        by_cases hlt : i < nx
        · have hlti : (i : Int) < nx := by omega
          have hi0 : (0 : Int) ≤ i := by omega
          have hnb : (nx : Int) ≤ 9223372036854775807 := by omega
          obtain ⟨ady, y, rfl, _, hcy, hy⟩ := HRC.out.at_ hlt
          obtain ⟨k, hk⟩ : ∃ k, xs[i]? = some k := ⟨_, List.getElem?_eq_getElem (by rw [HNX.out]; exact hlt)⟩
          have hyk : y = (k : Int) := by
            have h := hy.out
            unfold natI at h
            rw [List.getElem?_map, hk] at h
            exact (Option.some.inj h).symm
          subst hyk
          have hkx := List.mem_of_getElem? hk
          have hk10 := HLX.out k hkx
          have hc1 : zs.contains k = true := by simpa using H3.out k hkx
          have HK1 := Lib.hid (contains_any (HNg.out.n (vd, zs) (by simp)) k)
          rw [hc1] at HK1
          obtain ⟨m, hm⟩ : ∃ q, k + sn = q := ⟨_, rfl⟩
          have em : (k : Int) + (sn : Int) = (m : Int) := by omega
          have HK2 := Lib.hid (contains_any (HNg.out.n (vd, zs) (by simp)) m)
          by_cases hle : m ≤ 1000
          · have hlei : (m : Int) ≤ 1000 := by omega
            have hc2 : zs.contains m = true := by
              have h := H4.out k hkx (by omega)
              rw [hm] at h
              simpa using h
            rw [hc2] at HK2
            clear hk hkx hy hm hc1 hc2
            go_wp2_with (first
              | (go_at_call 58; (with_reducible refine HK1.out.mono ?_); rintro e wv ⟨rfl, hwv⟩; replace hwv := hwv.symm; subst hwv)
              | (go_at_call 58; (with_reducible refine HK2.out.mono ?_); rintro e wv ⟨rfl, hwv⟩; replace hwv := hwv.symm; subst hwv))
            go_roundw
            case rel => exact ⟨i + 1, by omega, by go_num, trivial⟩
            case measure => simp only [intOf]; omega
          · have hlei : ¬ (m : Int) ≤ 1000 := by omega
            clear hk hkx hy hm hc1 HK2
            go_wp2_with (first
              | (go_at_call 58; (with_reducible refine HK1.out.mono ?_); rintro e wv ⟨rfl, hwv⟩; replace hwv := hwv.symm; subst hwv))
            go_roundw
            case rel => exact ⟨i + 1, by omega, by go_num, trivial⟩
            case measure => simp only [intOf]; omega
        · obtain rfl : i = nx := by omega
          have hlti : ¬ (i : Int) < i := by omega
          go_wp2_with (go_at_call 14; (with_reducible refine (HWO.out _ HNg.out.bk.below).mono ?_); rintro e wz ⟨rfl, hbz⟩)
          go_ret
          exact ⟨rfl, HNg.out.bk.below.trans (hbz.mono HNg.out.bk.below.size)⟩
    · have HW := Lib.hid h1
      have HD := Lib.hid h2
      have HO := Lib.hid h3
      have HC1 := HC0
      clear h1 h2 h3
      go_upto_region 12 with (first
        | (go_at_call 31; (with_reducible refine (bn_could HNa.out dr HC0.out).mono ?_); rintro e wk ⟨vc, rfl, h⟩; have HNb := Lib.hid h; clear h HNa)
        | (go_at_call 28; (with_reducible refine (bn_sizes HNb.out dr HZ0.out).mono ?_); rintro e wk ⟨vs, rfl, h⟩; have HNc := Lib.hid h; clear h HNb)
        | (go_at_call 57; (with_reducible refine (HATI.out _).mono ?_); rintro e wk ⟨rfl, hbk⟩; have HNd := Lib.hid (HNc.out.callee hbk); clear hbk HNc)
        | (go_at_call 44; (with_reducible refine (HIT.out _ HNd.out.bk.below).mono ?_); rintro e wk ⟨rfl, hbk⟩; have HNe := Lib.hid (HNd.out.callee hbk); clear hbk HNd)
        | (go_at_call 20; (with_reducible refine (bn_do HT.out HNe.out s5 HW.out HD.out).mono ?_); rintro e wk ⟨rfl, h⟩; have HNf := Lib.hid h; clear h HNe)
        | (go_at_call 31; (with_reducible refine (bn_could HNf.out dr HC1.out).mono ?_); rintro e wk ⟨vd, rfl, h⟩; have HNg := Lib.hid h; clear h HNf))
      cases hkn : ys.contains sn with
      | false =>
        go_wp2_with (first
          | (go_at_call 58; (with_reducible refine (contains_any (HNg.out.n (vs, ys) (by simp)) sn).mono ?_); rintro e wk ⟨rfl, hw⟩; replace hw := hw.symm; subst hw; rw [hkn])
          | (go_at_call 46; (with_reducible refine (same_two (HNg.out.n (vc, xs) (by simp)) (HNg.out.n (vd, xs) (by simp))).mono ?_); rintro e wk ⟨rfl, hbk⟩; replace HNg := Lib.hid (HNg.out.callee hbk); clear hbk)
          | (go_at_call 19; (with_reducible refine (bn_would HT.out HNg.out so HO.out).mono ?_); rintro e wk ⟨rfl, h⟩; replace HNg := Lib.hid h; clear h)
          | (go_at_call 14; (with_reducible refine (HWO.out _ HNg.out.bk.below).mono ?_); rintro e wz ⟨rfl, hbz⟩))
        go_ret
        exact ⟨rfl, HNg.out.bk.below.trans (hbz.mono HNg.out.bk.below.size)⟩
      | true =>
        go_wp2_with (first
          | (go_at_call 58; (with_reducible refine (contains_any (HNg.out.n (vs, ys) (by simp)) sn).mono ?_); rintro e wk ⟨rfl, hw⟩; replace hw := hw.symm; subst hw; rw [hkn])
          | (go_at_call 46; (with_reducible refine (same_two (HNg.out.n (vc, xs) (by simp)) (HNg.out.n (vd, xs) (by simp))).mono ?_); rintro e wk ⟨rfl, hbk⟩; replace HNg := Lib.hid (HNg.out.callee hbk); clear hbk)
          | (go_at_call 19; (with_reducible refine (bn_would HT.out HNg.out so HO.out).mono ?_); rintro e wk ⟨rfl, h⟩; replace HNg := Lib.hid h; clear h)
          | (go_at_call 14; (with_reducible refine (HWO.out _ HNg.out.bk.below).mono ?_); rintro e wz ⟨rfl, hbz⟩))
        go_ret
        exact ⟨rfl, HNg.out.bk.below.trans (hbz.mono HNg.out.bk.below.size)⟩
    · have HW := Lib.hid h1
      have HD := Lib.hid h2
      have HO := Lib.hid h3
      have hkn := h4
      have HC1 := HC0
      clear h1 h2 h3 h4
      go_upto_region 12 with (first
        | (go_at_call 31; (with_reducible refine (bn_could HNa.out dr HC0.out).mono ?_); rintro e wk ⟨vc, rfl, h⟩; have HNb := Lib.hid h; clear h HNa)
        | (go_at_call 28; (with_reducible refine (bn_sizes HNb.out dr HZ0.out).mono ?_); rintro e wk ⟨vs, rfl, h⟩; have HNc := Lib.hid h; clear h HNb)
        | (go_at_call 57; (with_reducible refine (HATI.out _).mono ?_); rintro e wk ⟨rfl, hbk⟩; have HNd := Lib.hid (HNc.out.callee hbk); clear hbk HNc)
        | (go_at_call 44; (with_reducible refine (HIT.out _ HNd.out.bk.below).mono ?_); rintro e wk ⟨rfl, hbk⟩; have HNe := Lib.hid (HNd.out.callee hbk); clear hbk HNd)
        | (go_at_call 20; (with_reducible refine (bn_do HT.out HNe.out s5 HW.out HD.out).mono ?_); rintro e wk ⟨rfl, h⟩; have HNf := Lib.hid h; clear h HNe)
        | (go_at_call 31; (with_reducible refine (bn_could HNf.out dr HC1.out).mono ?_); rintro e wk ⟨vd, rfl, h⟩; have HNg := Lib.hid h; clear h HNf))
      go_wp2_with (first
        | (go_at_call 58; (with_reducible refine (contains_any (HNg.out.n (vs, ys) (by simp)) sn).mono ?_); rintro e wk ⟨rfl, hw⟩; replace hw := hw.symm; subst hw; rw [hkn])
        | (go_at_call 46; (with_reducible refine (same_two (HNg.out.n (vc, xs) (by simp)) (HNg.out.n (vd, xs) (by simp))).mono ?_); rintro e wk ⟨rfl, hbk⟩; replace HNg := Lib.hid (HNg.out.callee hbk); clear hbk)
        | (go_at_call 19; (with_reducible refine (bn_would HT.out HNg.out so HO.out).mono ?_); rintro e wk ⟨rfl, h⟩; replace HNg := Lib.hid h; clear h)
        | (go_at_call 14; (with_reducible refine (HWO.out _ HNg.out.bk.below).mono ?_); rintro e wz ⟨rfl, hbz⟩))
      go_ret
      exact ⟨rfl, HNg.out.bk.below.trans (hbz.mono HNg.out.bk.below.size)⟩
    · have HW := Lib.hid h1
      have HD := Lib.hid h2
      have HO := Lib.hid h3
      have hkn := h4
      have HC1 := HC0
      clear h1 h2 h3 h4
      go_upto_region 12 with (first
        | (go_at_call 31; (with_reducible refine (bn_could HNa.out dr HC0.out).mono ?_); rintro e wk ⟨vc, rfl, h⟩; have HNb := Lib.hid h; clear h HNa)
        | (go_at_call 28; (with_reducible refine (bn_sizes HNb.out dr HZ0.out).mono ?_); rintro e wk ⟨vs, rfl, h⟩; have HNc := Lib.hid h; clear h HNb)
        | (go_at_call 57; (with_reducible refine (HATI.out _).mono ?_); rintro e wk ⟨rfl, hbk⟩; have HNd := Lib.hid (HNc.out.callee hbk); clear hbk HNc)
        | (go_at_call 44; (with_reducible refine (HIT.out _ HNd.out.bk.below).mono ?_); rintro e wk ⟨rfl, hbk⟩; have HNe := Lib.hid (HNd.out.callee hbk); clear hbk HNd)
        | (go_at_call 20; (with_reducible refine (bn_do HT.out HNe.out s5 HW.out HD.out).mono ?_); rintro e wk ⟨rfl, h⟩; have HNf := Lib.hid h; clear h HNe)
        | (go_at_call 31; (with_reducible refine (bn_could HNf.out dr HC1.out).mono ?_); rintro e wk ⟨vd, rfl, h⟩; have HNg := Lib.hid h; clear h HNf))
      go_wp2_with (first
        | (go_at_call 58; (with_reducible refine (contains_any (HNg.out.n (vs, ys) (by simp)) sn).mono ?_); rintro e wk ⟨rfl, hw⟩; replace hw := hw.symm; subst hw; rw [hkn])
        | (go_at_call 46; (with_reducible refine (same_two (HNg.out.n (vc, xs) (by simp)) (HNg.out.n (vd, xs) (by simp))).mono ?_); rintro e wk ⟨rfl, hbk⟩; replace HNg := Lib.hid (HNg.out.callee hbk); clear hbk)
        | (go_at_call 19; (with_reducible refine (bn_would HT.out HNg.out so HO.out).mono ?_); rintro e wk ⟨rfl, h⟩; replace HNg := Lib.hid h; clear h)
        | (go_at_call 14; (with_reducible refine (HWO.out _ HNg.out.bk.below).mono ?_); rintro e wz ⟨rfl, hbz⟩))
      go_ret
      exact ⟨rfl, HNg.out.bk.below.trans (hbz.mono HNg.out.bk.below.size)⟩
end
end Dr
end Go.Proofs.YtbgakdpbglpfaaaGreatDoor
