/- The book's Could, walked. -/
import Derived.Test.YtbgakdpbglpfaaaGreatDoorDrWc
import Derived.Test.YtbgakdpbglpfaaaGreatDoorJna
namespace Go.Proofs.YtbgakdpbglpfaaaGreatDoor
open Go.RowKit
namespace Dr
set_option linter.unusedSimpArgs false
/-- all numbers that a drawer makes up -/
def couldC (c : Chest) : List Nat := if c.sizes = [] then [0] else couldL c.sizes c.stock
section
variable {w w' : World} {V V' : Vals} {gb : Nat} {vl : Value} {B : Book} {S : House}
theorem ChestOk.stk_ {c : Chest} (hc : ChestOk c) (he : c.sizes ≠ []) : Pk.Stk c.sizes c.stock := ⟨⟨List.length_pos_iff.2 he, hc.five, hc.rng, hc.srt⟩, hc.len, hc.stk⟩
/-- two rows of a drawer, as packet wants them -/
theorem chest_rows {vs vk : Value} {c : Chest} (hc : ChestOk c) (h1 : OwnN w vs c.sizes) (h2 : OwnN w vk c.stock) (he : c.sizes ≠ []) : ∃ A cs g2 c2 n, c.sizes.length = n ∧ 0 < n ∧ vs = .slice A n cs ∧ vk = .slice (some ⟨g2, 0, none⟩) n c2 ∧ RInts w w.heap.size A n (natI c.sizes) ∧ RInts w w.heap.size (some ⟨g2, 0, none⟩) n (natI c.stock) := by
  obtain ⟨A, cs, rfl, _, _, hRA, _⟩ := ownN_form h1
  obtain ⟨A2, c2, rfl, _, _, hR2, hA2⟩ := ownN_form h2
  have hpos : 0 < c.sizes.length := List.length_pos_iff.2 he
  have hlen := hc.len
  obtain ⟨g2, rfl⟩ := hA2 (by omega)
  rw [hlen] at hR2
  exact ⟨A, cs, g2, c2, _, rfl, hpos, rfl, by rw [hlen], hRA, hR2⟩
set_option maxRecDepth 100000 in
set_option maxHeartbeats 2000000 in
theorem could_any (H : BookAt w V gb vl B) (I : BInv B) (d : ByteArray) :
    Calls Tryz.prog 31 #[.pointer (some ⟨gb, 0, none⟩), .string d] w (RowN w (B.ask d [] couldC)) := by
  cases hk : lk d B.house.chests with
  | none =>
    rw [show B.ask d [] couldC = ([], 2) by unfold Book.ask; rw [hk]]
    have HD := Lib.hid (drawer_no H d hk)
    clear H I hk
    go_enter Tryz.func31, Tryz.ntmps31
    go_wp2_with (go_at_call 76; (with_reducible refine HD.out.mono ?_); rintro e w3 ⟨rfl, hw3⟩; replace hw3 := hw3.symm; subst hw3)
    go_ret2
    exact ⟨_, rfl, NewN.nil _ _, Below.refl _ _⟩
  | some c =>
    rw [show B.ask d [] couldC = (couldC c, 0) by unfold Book.ask; rw [hk]]
    have hco := I.inv.ok d c hk
    have C := H.house.ch d c hk
    obtain ⟨g, hg, hB⟩ := C.at_
    have HD := Lib.hid (drawer_yes H d hk hg)
    have c0 : w.cell? ⟨g, 0, none⟩ = some (V (.sizes d)) := hB.at_ 0 rfl
    have c1 : w.cell? ⟨g, 1, none⟩ = some (V (.stock d)) := hB.at_ 1 rfl
    by_cases he : c.sizes = []
    · rw [show couldC c = [0] by unfold couldC; rw [if_pos he]]
      obtain ⟨A, cs, hv, _⟩ := ownN_form C.sizes
      rw [he] at hv
      replace hv : V (.sizes d) = .slice A 0 cs := hv
      rw [hv] at c0
      clear H I hk hco C hg hB hv he c1
      go_enter Tryz.func31, Tryz.ntmps31
      go_wp2_with (first
        | (go_at_call 76; (with_reducible refine HD.out.mono ?_); rintro e w3 ⟨rfl, hw3⟩; replace hw3 := hw3.symm; subst hw3)
        | (with_reducible show wpList _ _ _ (⟨_, .buildSlice 40 _ _, _, _, _, _⟩ :: _) _ _
           refine wpList_lit1 rfl 40 3 _ (.int .i64 (0 : Int)) rfl rfl (lit_int 0) ?_
           intro w6 g6 hG6 hgr6 hge6))
      go_ret2
      exact ⟨_, rfl, ⟨own_of_blk hG6 rfl (by decide) (by decide) rfl (fun j hj => by
        obtain rfl : j = 0 := by simpa using hj
        rfl), fun g hg => by
        have e : g6 = g := by simpa [blkOf] using hg
        omega⟩, below_grown hgr6⟩
    · rw [show couldC c = couldL c.sizes c.stock by unfold couldC; rw [if_neg he]]
      obtain ⟨A, cs, g2, c2, n, hn, hpos, hvs, hvk, hr, hr2⟩ := chest_rows hco C.sizes C.stock he
      rw [hvs] at c0
      rw [hvk] at c1
      have HT := Lib.hid (fun (w' : World) (hb : Below w.heap.size w w') => totals_any A n cs g2 0 c2 c.sizes c.stock (hco.stk_ he) w.heap.size hb.size (hr.later (Nat.le_refl _) hb) (hr2.later (Nat.le_refl _) hb))
      have KF := Lib.hid (And.intro c0 c1)
      have hn0 : ¬ n = 0 := by omega
      obtain ⟨R, hR⟩ : ∃ q, couldL c.sizes c.stock = q := ⟨_, rfl⟩
      rw [hR] at HT ⊢
      clear H I hk hco C hg hB hvs hvk he hr hr2 hR hn
      go_enter Tryz.func31, Tryz.ntmps31
      go_wp2_with (first
        | (go_at_call 76; (with_reducible refine HD.out.mono ?_); rintro e w3 ⟨rfl, hw3⟩; replace hw3 := hw3.symm; subst hw3))
      refine De.region_tree (fun b w' => bif b then (True) else (w'.cell? ⟨g, 0, none⟩ = some (.slice A n cs) ∧ w'.cell? ⟨g, 1, none⟩ = some (.slice (some ⟨g2, 0, none⟩) n c2))) 8 1 (by kernel_rfl) (by kernel_rfl) (by decide) KF.out ?_
      (try simp only [Act.put, De.l0, De.l1, De.l2])
      refine De.MidT.read (o := ?o1) (v := ?v1) 0 (by decide) ?q1 (by kernel_rfl) (by kernel_rfl) ?w1 (by kernel_rfl) ?y1 ?h1
      case q1 => (simp only [De.g0, De.g1, De.g2]; rfl)
      case w1 => kernel_rfl
      case y1 => (intro w' hw'; obtain ⟨x1, x2⟩ := hw'; go_simp; (try with_reducible rfl))
      (try simp only [Act.put, De.l0, De.l1, De.l2])
      refine De.MidT.read (o := ?o2) (v := ?v2) 1 (by decide) ?q2 (by kernel_rfl) (by kernel_rfl) ?w2 (by kernel_rfl) ?y2 ?h2
      case q2 => (simp only [De.g0, De.g1, De.g2]; rfl)
      case w2 => kernel_rfl
      case y2 => (intro w' hw'; obtain ⟨x1, x2⟩ := hw'; go_simp; (try with_reducible rfl))
      (try simp only [Act.put, De.l0, De.l1, De.l2])
      refine De.MidT.read (o := ?o3) (v := ?v3) 2 (by decide) ?q3 (by kernel_rfl) (by kernel_rfl) ?w3 (by kernel_rfl) ?y3 ?h3
      case q3 => (simp only [De.g0, De.g1, De.g2]; rfl)
      case w3 => kernel_rfl
      case y3 => (intro w' hw'; obtain ⟨x1, x2⟩ := hw'; go_simp; (try with_reducible rfl))
      (try simp only [Act.put, De.l0, De.l1, De.l2])
      refine De.MidT.read (o := ?o4) (v := ?v4) 3 (by decide) ?q4 (by kernel_rfl) (by kernel_rfl) ?w4 (by kernel_rfl) ?y4 ?h4
      case q4 => (simp only [De.g0, De.g1, De.g2]; rfl)
      case w4 => kernel_rfl
      case y4 => (intro w' hw'; obtain ⟨x1, x2⟩ := hw'; go_simp; (try with_reducible rfl))
      (try simp only [Act.put, De.l0, De.l1, De.l2])
      refine De.MidT.read (o := ?o5) (v := ?v5) 4 (by decide) ?q5 (by kernel_rfl) (by kernel_rfl) ?w5 (by kernel_rfl) ?y5 ?h5
      case q5 => (simp only [De.g0, De.g1, De.g2]; rfl)
      case w5 => kernel_rfl
      case y5 => (intro w' hw'; obtain ⟨x1, x2⟩ := hw'; go_simp; (try with_reducible rfl))
      (try simp only [Act.put, De.l0, De.l1, De.l2])
      refine De.MidT.read (o := ?o6) (v := ?v6) 5 (by decide) ?q6 (by kernel_rfl) (by kernel_rfl) ?w6 (by kernel_rfl) ?y6 ?h6
      case q6 => (simp only [De.g0, De.g1, De.g2]; rfl)
      case w6 => kernel_rfl
      case y6 => (intro w' hw'; obtain ⟨x1, x2⟩ := hw'; go_simp; (try with_reducible rfl))
      (try simp only [Act.put, De.l0, De.l1, De.l2])
      refine De.MidT.read (o := ?o7) (v := ?v7) 6 (by decide) ?q7 (by kernel_rfl) (by kernel_rfl) ?w7 (by kernel_rfl) ?y7 ?h7
      case q7 => (simp only [De.g0, De.g1, De.g2]; rfl)
      case w7 => kernel_rfl
      case y7 => (intro w' hw'; obtain ⟨x1, x2⟩ := hw'; go_simp; (try with_reducible rfl))
      (try simp only [Act.put, De.l0, De.l1, De.l2])
      refine De.MidT.read (o := ?o8) (v := ?v8) 7 (by decide) ?q8 (by kernel_rfl) (by kernel_rfl) ?w8 (by kernel_rfl) ?y8 ?h8
      case q8 => (simp only [De.g0, De.g1, De.g2]; rfl)
      case w8 => kernel_rfl
      case y8 => (intro w' hw'; obtain ⟨x1, x2⟩ := hw'; go_simp; (try with_reducible rfl))
      (try simp only [Act.put, De.l0, De.l1, De.l2])
      (try refine De.MidT.tail ?_)
      refine De.Tr.one (i := 8) (o := ?o9) (by kernel_rfl) ?q9 ?g9 ?h9
      case q9 => (simp only [De.g0, De.g1, De.g2]; rfl)
      case g9 => rfl
      refine wp_enterK 78 #[.slice A n cs, .slice (some ⟨g2, 0, none⟩) n c2] (by go_simp) (HT.out _ (Below.refl _ _).drew) ?_
      rintro e w4 ⟨v, rfl, hN4, hb4⟩
      refine ⟨_, rfl, ⟨_, rfl⟩, trivial, ?_⟩
      (try simp only [Act.put, De.l0, De.l1, De.l2])
      refine De.MidT.read2 (o := ?o10) (v := ?v10) 9 (by decide) ?q10 (by kernel_rfl) (by kernel_rfl) ?w10 ?y10 ?h10
      case q10 => (simp only [De.g0, De.g1, De.g2]; rfl)
      case w10 => kernel_rfl
      case y10 => (intro b w' hw'; clear hw'; go_simp; (try with_reducible rfl))
      (try simp only [Act.put, De.l0, De.l1, De.l2])
      refine De.MidT.read2 (o := ?o11) (v := ?v11) 10 (by decide) ?q11 (by kernel_rfl) (by kernel_rfl) ?w11 ?y11 ?h11
      case q11 => (simp only [De.g0, De.g1, De.g2]; rfl)
      case w11 => kernel_rfl
      case y11 => (intro b w' hw'; clear hw'; go_simp; (try with_reducible rfl))
      (try simp only [Act.put, De.l0, De.l1, De.l2])
      refine De.MidT.read2 (o := ?o12) (v := ?v12) 11 (by decide) ?q12 (by kernel_rfl) (by kernel_rfl) ?w12 ?y12 ?h12
      case q12 => (simp only [De.g0, De.g1, De.g2]; rfl)
      case w12 => kernel_rfl
      case y12 => (intro b w' hw'; clear hw'; go_simp; (try with_reducible rfl))
      (try simp only [Act.put, De.l0, De.l1, De.l2])
      refine De.MidT.read2 (o := ?o13) (v := ?v13) 12 (by decide) ?q13 (by kernel_rfl) (by kernel_rfl) ?w13 ?y13 ?h13
      case q13 => (simp only [De.g0, De.g1, De.g2]; rfl)
      case w13 => kernel_rfl
      case y13 => (intro b w' hw'; clear hw'; go_simp; (try with_reducible rfl))
      (try simp only [Act.put, De.l0, De.l1, De.l2])
      (try refine De.MidT.tail ?_)
      refine De.Tr.done (by kernel_rfl) ?_
      (try simp only [Act.put, De.l0, De.l1, De.l2])
      go_wp2_with (fail)
      go_ret2
      exact ⟨_, rfl, hN4, (Below.refl _ _).drew.trans hb4⟩
end
end Dr
end Go.Proofs.YtbgakdpbglpfaaaGreatDoor
