/- The book's Next, walked. -/
import Derived.Test.YtbgakdpbglpfaaaGreatDoorDrWe
namespace Go.Proofs.YtbgakdpbglpfaaaGreatDoor
open Go.RowKit
namespace Dr
set_option linter.unusedSimpArgs false
/-- the smallest number from n on that a drawer makes up, and the error -/
def nextC (n : Int) (c : Chest) : Int × Int :=
  if n < 0 ∨ 1000 < n then (0, 1)
  else if c.sizes = [] then (if 0 < n then (0, 12) else (0, 0))
  else nextE (nextP c.sizes c.stock n.toNat)
def Book.nextB (B : Book) (d : ByteArray) (n : Int) : Int × Int := match lk d B.house.chests with
  | none => (0, 2)
  | some c => nextC n c
section
variable {w w' : World} {V V' : Vals} {gb : Nat} {vl : Value} {B : Book} {S : House}
set_option maxRecDepth 100000 in
set_option maxHeartbeats 2000000 in
theorem next_any (H : BookAt w V gb vl B) (I : BInv B) (d : ByteArray) (n : Int) :
    Calls Tryz.prog 33 #[.pointer (some ⟨gb, 0, none⟩), .string d, .int .i64 n] w fun e w' => e = .returned (.tuple #[.int .i64 (B.nextB d n).1, .int .i64 (B.nextB d n).2]) ∧ Below w.heap.size w w' := by
  cases hk : lk d B.house.chests with
  | none =>
    rw [show B.nextB d n = (0, 2) by unfold Book.nextB; rw [hk]]
    have HD := Lib.hid (drawer_no H d hk)
    clear H I hk
    go_enter Tryz.func33, Tryz.ntmps33
    go_wp2_with (go_at_call 76; (with_reducible refine HD.out.mono ?_); rintro e w3 ⟨rfl, hw3⟩; replace hw3 := hw3.symm; subst hw3)
    go_ret2
    exact ⟨rfl, Below.refl _ _⟩
  | some c =>
    rw [show B.nextB d n = nextC n c by unfold Book.nextB; rw [hk]]
    have hco := I.inv.ok d c hk
    have C := H.house.ch d c hk
    obtain ⟨g, hg, hB⟩ := C.at_
    have HD := Lib.hid (drawer_yes H d hk hg)
    have c0 : w.cell? ⟨g, 0, none⟩ = some (V (.sizes d)) := hB.at_ 0 rfl
    have c1 : w.cell? ⟨g, 1, none⟩ = some (V (.stock d)) := hB.at_ 1 rfl
    by_cases hlo : n < 0
    · rw [show nextC n c = (0, 1) by unfold nextC; rw [if_pos (Or.inl hlo)]]
      clear H I hk hco C hg hB c0 c1
      go_enter Tryz.func33, Tryz.ntmps33
      go_wp2_with (go_at_call 76; (with_reducible refine HD.out.mono ?_); rintro e w3 ⟨rfl, hw3⟩; replace hw3 := hw3.symm; subst hw3)
      go_ret2
      exact ⟨rfl, Below.refl _ _⟩
    by_cases hhi : 1000 < n
    · rw [show nextC n c = (0, 1) by unfold nextC; rw [if_pos (Or.inr hhi)]]
      clear H I hk hco C hg hB c0 c1
      go_enter Tryz.func33, Tryz.ntmps33
      go_wp2_with (go_at_call 76; (with_reducible refine HD.out.mono ?_); rintro e w3 ⟨rfl, hw3⟩; replace hw3 := hw3.symm; subst hw3)
      go_ret2
      exact ⟨rfl, Below.refl _ _⟩
    obtain ⟨m, rfl⟩ : ∃ m : Nat, n = (m : Int) := ⟨n.toNat, by omega⟩
    have hm : m ≤ 1000 := by omega
    by_cases he : c.sizes = []
    · obtain ⟨A, cs, hv, _⟩ := ownN_form C.sizes
      rw [he] at hv
      replace hv : V (.sizes d) = .slice A 0 cs := hv
      rw [hv] at c0
      by_cases hm0 : 0 < m
      · rw [show nextC m c = (0, 12) by unfold nextC; rw [if_neg (by omega), if_pos he, if_pos (by omega)]]
        have hmi : (0 : Int) < m := by omega
        clear H I hk hco C hg hB hv he c1
        go_enter Tryz.func33, Tryz.ntmps33
        go_wp2_with (go_at_call 76; (with_reducible refine HD.out.mono ?_); rintro e w3 ⟨rfl, hw3⟩; replace hw3 := hw3.symm; subst hw3)
        go_ret2
        exact ⟨rfl, Below.refl _ _⟩
      · rw [show nextC m c = (0, 0) by unfold nextC; rw [if_neg (by omega), if_pos he, if_neg (by omega)]]
        obtain rfl : m = 0 := by omega
        clear H I hk hco C hg hB hv he c1 hlo hhi hm hm0
        go_enter Tryz.func33, Tryz.ntmps33
        go_wp2_with (go_at_call 76; (with_reducible refine HD.out.mono ?_); rintro e w3 ⟨rfl, hw3⟩; replace hw3 := hw3.symm; subst hw3)
        go_ret2
        exact ⟨rfl, Below.refl _ _⟩
    · rw [show nextC m c = nextE (nextP c.sizes c.stock m) by unfold nextC; rw [if_neg (by omega), if_neg he]; rfl]
      obtain ⟨A, cs, g2, c2, k, hn, hpos, hvs, hvk, hr, hr2⟩ := chest_rows hco C.sizes C.stock he
      rw [hvs] at c0
      rw [hvk] at c1
      have HT := Lib.hid (fun (w' : World) (hb : Below w.heap.size w w') => least_any A k cs g2 0 c2 c.sizes c.stock (hco.stk_ he) m hm w.heap.size hb.size (hr.later (Nat.le_refl _) hb) (hr2.later (Nat.le_refl _) hb))
      have KF := Lib.hid (And.intro c0 c1)
      have hn0 : ¬ k = 0 := by omega
      obtain ⟨⟨l, E⟩, hR⟩ : ∃ q, nextE (nextP c.sizes c.stock m) = q := ⟨_, rfl⟩
      rw [hR] at HT ⊢
      clear H I hk hco C hg hB hvs hvk he hr hr2 hR hn
      go_enter Tryz.func33, Tryz.ntmps33
      go_wp2_with (first
        | (go_at_call 76; (with_reducible refine HD.out.mono ?_); rintro e w3 ⟨rfl, hw3⟩; replace hw3 := hw3.symm; subst hw3))
      refine De.region_tree (fun b w' => bif b then (True) else (w'.cell? ⟨g, 0, none⟩ = some (.slice A k cs) ∧ w'.cell? ⟨g, 1, none⟩ = some (.slice (some ⟨g2, 0, none⟩) k c2))) 9 1 (by kernel_rfl) (by kernel_rfl) (by decide) KF.out ?_
      (try simp only [Act.put, De.l0, De.l1, De.l2])
      refine De.MidT.read (o := ?o1) (v := ?v1) 0 (by decide) ?q1 (by kernel_rfl) (by kernel_rfl) ?w1 (by kernel_rfl) ?y1 ?h1
      case q1 => (simp only [De.g0, De.g1, De.g2]; rfl)
      case w1 => kernel_rfl
      case y1 => (intro w' hw'; obtain ⟨x1, x2⟩ := hw'; go_simp; (try with_reducible rfl))
      (try simp only [Act.put, De.l0, De.l1, De.l2])
      refine De.MidT.read (o := ?o2) (v := ?v2) 1 (by decide) ?q2 (by kernel_rfl) (by kernel_rfl) ?w2 (by kernel_rfl) ?y2 ?h2
      case q2 => (simp only [De.g0, De.g1, De.g2]; rfl)
      case w2 => kernel_rfl
      case y2 => (intro w' hw'; obtain ⟨x1, x2⟩ := hw'; go_simp; (try with_reducible rfl))
      (try simp only [Act.put, De.l0, De.l1, De.l2])
      refine De.MidT.read (o := ?o3) (v := ?v3) 2 (by decide) ?q3 (by kernel_rfl) (by kernel_rfl) ?w3 (by kernel_rfl) ?y3 ?h3
      case q3 => (simp only [De.g0, De.g1, De.g2]; rfl)
      case w3 => kernel_rfl
      case y3 => (intro w' hw'; obtain ⟨x1, x2⟩ := hw'; go_simp; (try with_reducible rfl))
      (try simp only [Act.put, De.l0, De.l1, De.l2])
      refine De.MidT.read (o := ?o4) (v := ?v4) 3 (by decide) ?q4 (by kernel_rfl) (by kernel_rfl) ?w4 (by kernel_rfl) ?y4 ?h4
      case q4 => (simp only [De.g0, De.g1, De.g2]; rfl)
      case w4 => kernel_rfl
      case y4 => (intro w' hw'; obtain ⟨x1, x2⟩ := hw'; go_simp; (try with_reducible rfl))
      (try simp only [Act.put, De.l0, De.l1, De.l2])
      refine De.MidT.read (o := ?o5) (v := ?v5) 4 (by decide) ?q5 (by kernel_rfl) (by kernel_rfl) ?w5 (by kernel_rfl) ?y5 ?h5
      case q5 => (simp only [De.g0, De.g1, De.g2]; rfl)
      case w5 => kernel_rfl
      case y5 => (intro w' hw'; obtain ⟨x1, x2⟩ := hw'; go_simp; (try with_reducible rfl))
      (try simp only [Act.put, De.l0, De.l1, De.l2])
      refine De.MidT.read (o := ?o6) (v := ?v6) 5 (by decide) ?q6 (by kernel_rfl) (by kernel_rfl) ?w6 (by kernel_rfl) ?y6 ?h6
      case q6 => (simp only [De.g0, De.g1, De.g2]; rfl)
      case w6 => kernel_rfl
      case y6 => (intro w' hw'; obtain ⟨x1, x2⟩ := hw'; go_simp; (try with_reducible rfl))
      (try simp only [Act.put, De.l0, De.l1, De.l2])
      refine De.MidT.read (o := ?o7) (v := ?v7) 6 (by decide) ?q7 (by kernel_rfl) (by kernel_rfl) ?w7 (by kernel_rfl) ?y7 ?h7
      case q7 => (simp only [De.g0, De.g1, De.g2]; rfl)
      case w7 => kernel_rfl
      case y7 => (intro w' hw'; obtain ⟨x1, x2⟩ := hw'; go_simp; (try with_reducible rfl))
      (try simp only [Act.put, De.l0, De.l1, De.l2])
      refine De.MidT.read (o := ?o8) (v := ?v8) 7 (by decide) ?q8 (by kernel_rfl) (by kernel_rfl) ?w8 (by kernel_rfl) ?y8 ?h8
      case q8 => (simp only [De.g0, De.g1, De.g2]; rfl)
      case w8 => kernel_rfl
      case y8 => (intro w' hw'; obtain ⟨x1, x2⟩ := hw'; go_simp; (try with_reducible rfl))
      (try simp only [Act.put, De.l0, De.l1, De.l2])
      refine De.MidT.read (o := ?o9) (v := ?v9) 8 (by decide) ?q9 (by kernel_rfl) (by kernel_rfl) ?w9 (by kernel_rfl) ?y9 ?h9
      case q9 => (simp only [De.g0, De.g1, De.g2]; rfl)
      case w9 => kernel_rfl
      case y9 => (intro w' hw'; obtain ⟨x1, x2⟩ := hw'; go_simp; (try with_reducible rfl))
      (try simp only [Act.put, De.l0, De.l1, De.l2])
      (try refine De.MidT.tail ?_)
      refine De.Tr.one (i := 9) (o := ?o10) (by kernel_rfl) ?q10 ?g10 ?h10
      case q10 => (simp only [De.g0, De.g1, De.g2]; rfl)
      case g10 => rfl
      refine wp_enterK 79 #[.slice A k cs, .slice (some ⟨g2, 0, none⟩) k c2, .int .i64 (m : Int)] (by go_simp) (HT.out _ (Below.refl _ _).drew) ?_
      rintro e w4 ⟨rfl, hb4⟩
      refine ⟨_, rfl, ⟨_, rfl⟩, trivial, ?_⟩
      (try simp only [Act.put, De.l0, De.l1, De.l2])
      refine De.MidT.read2 (o := ?o11) (v := ?v11) 10 (by decide) ?q11 (by kernel_rfl) (by kernel_rfl) ?w11 ?y11 ?h11
      case q11 => (simp only [De.g0, De.g1, De.g2]; rfl)
      case w11 => kernel_rfl
      case y11 => (intro b w' hw'; clear hw'; go_simp; (try with_reducible rfl))
      (try simp only [Act.put, De.l0, De.l1, De.l2])
      refine De.MidT.read2 (o := ?o12) (v := ?v12) 11 (by decide) ?q12 (by kernel_rfl) (by kernel_rfl) ?w12 ?y12 ?h12
      case q12 => (simp only [De.g0, De.g1, De.g2]; rfl)
      case w12 => kernel_rfl
      case y12 => (intro b w' hw'; clear hw'; go_simp; (try with_reducible rfl))
      (try simp only [Act.put, De.l0, De.l1, De.l2])
      refine De.MidT.read2 (o := ?o13) (v := ?v13) 12 (by decide) ?q13 (by kernel_rfl) (by kernel_rfl) ?w13 ?y13 ?h13
      case q13 => (simp only [De.g0, De.g1, De.g2]; rfl)
      case w13 => kernel_rfl
      case y13 => (intro b w' hw'; clear hw'; go_simp; (try with_reducible rfl))
      (try simp only [Act.put, De.l0, De.l1, De.l2])
      refine De.MidT.read2 (o := ?o14) (v := ?v14) 13 (by decide) ?q14 (by kernel_rfl) (by kernel_rfl) ?w14 ?y14 ?h14
      case q14 => (simp only [De.g0, De.g1, De.g2]; rfl)
      case w14 => kernel_rfl
      case y14 => (intro b w' hw'; clear hw'; go_simp; (try with_reducible rfl))
      (try simp only [Act.put, De.l0, De.l1, De.l2])
      (try refine De.MidT.tail ?_)
      refine De.Tr.done (by kernel_rfl) ?_
      (try simp only [Act.put, De.l0, De.l1, De.l2])
      go_wp2_with (fail)
      go_ret2
      exact ⟨rfl, (Below.refl _ _).drew.trans hb4⟩
end
end Dr
end Go.Proofs.YtbgakdpbglpfaaaGreatDoor
