/- The works of the layers below: packet.Fill, clasp.Way, till.Count, curl.Longer and bunch.Count at their examples. -/
import Derived.Test.YtkbfmogjhjdjmaaDoorClAll
import Derived.Test.YtkbfmogjhjdjmaaDoorPkDI
import Derived.Test.YtkbfmogjhjdjmaaDoorTiAll
import Derived.Test.YtkbfmogjhjdjmaaDoorCuAll
import Derived.Test.YtkbfmogjhjdjmaaDoorBuC
import Derived.Test.YtkbfmogjhjdjmaaDoorSame
namespace Go.Proofs.YtkbfmogjhjdjmaaDoor
open Go.RowKit
namespace Tw
open Bu (natI)
set_option maxHeartbeats 400000 in
theorem Fill_ok (A : Option Addr) (n c : Nat) (b2 o2 c2 : Nat) (ss ms : List Nat) (hS : Pk.Stk ss ms) (N : Nat) (hN : N ≤ 1000) (w : World) (B : Nat) (hB : B ≤ w.heap.size) (hr : RInts w B A n (natI ss)) (hr2 : RInts w B (some ⟨b2, o2, none⟩) n (natI ms)) :
    Calls Tryd.prog 63 #[.slice A n c, .slice (some ⟨b2, o2, none⟩) n c2, .int .i64 (N : Int)] w fun e w' => (∃ v, e = .returned (.tuple #[v, .int .i64 (Pk.fillE N (Pk.prs ss ms))]) ∧ OwnI w' w.heap.size v (Pk.fillV N (Pk.prs ss ms))) ∧ Below w.heap.size w w' := by
  have hor := Lib.hid (Pk.ordered_ok A n c b2 o2 c2 ss ms hS N hN w B hB hr hr2)
  obtain ⟨T, hT⟩ : ∃ T, Pk.stC A n c (some ⟨b2, o2, none⟩) n c2 = T := ⟨_, rfl⟩
  have hfi := Lib.hid (fun w' (hb : Below w.heap.size w w') => Pk.fill_ok A n c (some ⟨b2, o2, none⟩) c2 ss ms hS N hN w' B (Nat.le_trans hB hb.size) (hr.later hB hb) (hr2.later hB hb))
  have hTs : (Pk.stC none 0 0 none 0 0).size = T.size := by rw [← hT]; rfl
  obtain ⟨E, hE⟩ : ∃ q, Pk.fillE N (Pk.prs ss ms) = q := ⟨_, rfl⟩
  obtain ⟨V, hV⟩ : ∃ q, Pk.fillV N (Pk.prs ss ms) = q := ⟨_, rfl⟩
  rw [hT] at hor hfi
  rw [hE, hV] at hfi ⊢
  have hone : T.all (·.oneCell') = true := by rw [← hT]; exact Pk.stC_one _ _ _ _ _ _
  have hinf : (Tryd.prog.info? 119).map (·.size) = some T.size := by rw [← hT]; exact Pk.info_store _ _ _ _ _ _
  clear hT hE hV
  go_enter Tryd.func63, Tryd.ntmps63
  go_wp2_with (first
    | (go_at_call 69; (with_reducible refine hor.out.mono ?_); rintro e w2 ⟨rfl, hb2⟩)
    | (with_reducible show wpList _ _ _ (⟨_, .alloc 119, _, _, _, _⟩ :: _) _ _
       refine wpList_alloc_blk rfl 119 rfl _ Pk.zero_store ?_
       intro w3 g hG hgr hge
       have hb3 := below_none hb2 hgr hb2.size)
    | (with_reducible show wpList _ _ _ (⟨_, .store 119 (.tmp 8) _, _, _, _, _⟩ :: _) _ _
       refine wpList_store_blk rfl 119 _ _ rfl g T rfl rfl 119 _ hG hinf hTs hone ?_
       intro w5 hG5 hgr5
       have hb5 := below_some hb3 hgr5 hb3.size (Nat.le_trans hb2.size hge))
    | (with_reducible show wpList _ _ _ (⟨_, .load 119 (.tmp 8), _, _, _, _⟩ :: _) _ _
       refine wpList_load_blk rfl 119 _ rfl g rfl 119 T _ hG5 Tryd.underlying119 rfl hinf ?_)
    | (go_at_call 70; (with_reducible refine (hfi.out _ hb5).mono ?_); rintro e w6 ⟨⟨v, rfl, hv⟩, hb6⟩))
  go_ret2
  exact ⟨⟨_, rfl, Pk.own_mono hv hb5.size⟩, hb5.trans (hb6.mono hb5.size)⟩
/-- lists that are kept -/
def Keeps (w : World) (l : List (Option Addr × Nat × List Int)) : Prop := ∀ t ∈ l, RInts w w.heap.size t.1 t.2.1 t.2.2
/-- a walk from w0 to w: what it kept -/
def Wk (w0 w : World) (l : List (Option Addr × Nat × List Int)) : Prop := Keeps w l ∧ Below w0.heap.size w0 w ∧ Cl.Tab w
section
variable {w0 w w' : World} {l : List (Option Addr × Nat × List Int)} {A B C : Option Addr} {n m k c d f : Nat} {xs ys zs : List Int}
theorem Wk.step (h : Wk w0 w l) (hb : Below w.heap.size w w') : Wk w0 w' l := ⟨fun t ht => ((h.1 t ht).below hb).more hb.size, h.2.1.trans (hb.mono h.2.1.size), h.2.2.later hb⟩
theorem Wk.add (h : Wk w0 w l) (hr : RInts w w.heap.size A n xs) : Wk w0 w ((A, n, xs) :: l) := ⟨fun t ht => by
  rcases List.mem_cons.1 ht with rfl | ht
  · exact hr
  · exact h.1 t ht, h.2⟩
theorem Wk.drop {t : Option Addr × Nat × List Int} (h : Wk w0 w (t :: l)) : Wk w0 w l := ⟨fun s hs => h.1 s (List.mem_cons_of_mem _ hs), h.2⟩
theorem Wk.get (h : Wk w0 w l) (hm : (A, n, xs) ∈ l) : RInts w w.heap.size A n xs := h.1 _ hm
theorem Wk.start (hT : Cl.Tab w) : Wk w w [] := ⟨fun _ ht => absurd ht (by simp), Below.refl _ _, hT⟩
theorem max_of (h : RInts w w.heap.size A n xs) (hl : xs.length ≤ 100000) : n ≤ maxLen := by rw [← h.len]; exact Nat.le_trans hl (by decide)
theorem list_same (w : World) (v : Value) : Calls Tryd.prog 34 #[v] w fun e w' => e = .returned v ∧ w' = w := by
  go_enter Tryd.func34, Tryd.ntmps34
  go_wp2_with (fail)
  go_ret
  exact ⟨rfl, rfl⟩
theorem w_lit (h : Wk w0 w l) (ys : List Int) (hn : ys.length = n) : Calls Tryd.prog 34 #[.slice (some ⟨w.heap.size, 0, none⟩) n n] (w.alloc (.cells (intArr ys) 3))
    fun e w' => ∃ g, e = .returned (.slice (some ⟨g, 0, none⟩) n n) ∧ Wk w0 w' ((some ⟨g, 0, none⟩, n, ys) :: l) := by
  refine (list_same _ _).mono ?_
  rintro e w' ⟨rfl, rfl⟩
  exact ⟨_, rfl, (h.step ((Below.refl _ _).alloc (Nat.le_refl _) _)).add (RInts.of_blk (Blk.new _ _ _) hn)⟩
theorem w_list2 (h : Wk w0 w l) (x y : Int) : Calls Tryd.prog 34 #[.slice (some ⟨w.heap.size, 0, none⟩) 2 2] (w.alloc (.cells #[.int .i64 x, .int .i64 y] 3))
    fun e w' => ∃ g, e = .returned (.slice (some ⟨g, 0, none⟩) 2 2) ∧ Wk w0 w' ((some ⟨g, 0, none⟩, 2, [x, y]) :: l) := w_lit h [x, y] rfl
theorem w_list3 (h : Wk w0 w l) (x y z : Int) : Calls Tryd.prog 34 #[.slice (some ⟨w.heap.size, 0, none⟩) 3 3] (w.alloc (.cells #[.int .i64 x, .int .i64 y, .int .i64 z] 3))
    fun e w' => ∃ g, e = .returned (.slice (some ⟨g, 0, none⟩) 3 3) ∧ Wk w0 w' ((some ⟨g, 0, none⟩, 3, [x, y, z]) :: l) := w_lit h [x, y, z] rfl
theorem w_list5 (h : Wk w0 w l) (x y z u v : Int) : Calls Tryd.prog 34 #[.slice (some ⟨w.heap.size, 0, none⟩) 5 5] (w.alloc (.cells #[.int .i64 x, .int .i64 y, .int .i64 z, .int .i64 u, .int .i64 v] 3))
    fun e w' => ∃ g, e = .returned (.slice (some ⟨g, 0, none⟩) 5 5) ∧ Wk w0 w' ((some ⟨g, 0, none⟩, 5, [x, y, z, u, v]) :: l) := w_lit h [x, y, z, u, v] rfl
theorem w_same (h : Wk w0 w ((B, m, xs) :: l)) (h1 : (A, n, xs) ∈ l) (hl : xs.length ≤ 100000) : Calls Tryd.prog 33 #[.slice A n c, .slice B m d] w fun e w' => e = .returned (.bool true) ∧ Wk w0 w' l := by
  have h1 := h.get (List.mem_cons_of_mem _ h1)
  have h2 := h.get (List.mem_cons_self)
  refine (same_any A B n m c d xs xs w _ h1 h2 (max_of h1 hl) (max_of h2 hl)).mono ?_
  rintro e w' ⟨rfl, q, rfl⟩
  exact ⟨by rw [beq_self_eq_true], (h.step (below_drewN (Below.refl _ _) q)).drop⟩
theorem w_retL {e : Ending} {er : Int} (h : Wk w0 w l) (hr : Cl.RetL xs er w e w') : ∃ A n c, e = .returned (.tuple #[.slice A n c, .int .i64 er]) ∧ Wk w0 w' ((A, n, xs) :: l) := by
  obtain ⟨A, n, c, h1, h2, _, h3⟩ := hr
  exact ⟨A, n, c, h1, (h.step h3).add h2⟩
theorem w_own {v : Value} (h : Wk w0 w l) (hb : Below w.heap.size w w') (ho : OwnI w' w.heap.size v xs) : ∃ A c, v = .slice A xs.length c ∧ Wk w0 w' ((A, xs.length, xs) :: l) := by
  obtain ⟨A, c, h1, h2⟩ := ho.reads
  exact ⟨A, c, h1, (h.step hb).add h2⟩
theorem stk_ex : Pk.Stk [2, 5] [3, 2] := ⟨⟨by decide, by decide, by decide, by decide⟩, rfl, by decide⟩
theorem fill_ex : Pk.fillE 11 (Pk.prs [2, 5] [3, 2]) = 0 ∧ Pk.fillV 11 (Pk.prs [2, 5] [3, 2]) = [3, 1] := by decide +kernel
theorem w_fill {b1 b2 : Nat} (h : Wk w0 w ((some ⟨b2, 0, none⟩, 2, [3, 2]) :: (some ⟨b1, 0, none⟩, 2, [2, 5]) :: l)) : Calls Tryd.prog 63 #[.slice (some ⟨b1, 0, none⟩) 2 c, .slice (some ⟨b2, 0, none⟩) 2 d, .int .i64 11] w
    fun e w' => ∃ A c, e = .returned (.tuple #[.slice A 2 c, .int .i64 0]) ∧ Wk w0 w' ((A, 2, [3, 1]) :: l) := by
  have hf := Fill_ok (some ⟨b1, 0, none⟩) 2 c b2 0 d [2, 5] [3, 2] stk_ex 11 (by omega) w w.heap.size (Nat.le_refl _) (h.get (.tail _ (.head _))) (h.get (.head _))
  refine hf.mono ?_
  rintro e w' ⟨⟨v, rfl, hv⟩, hb⟩
  rw [fill_ex.1]
  rw [fill_ex.2] at hv
  obtain ⟨A, c, rfl, hk⟩ := w_own h.drop.drop hb hv
  exact ⟨A, c, rfl, hk⟩
theorem n111 : Cl.numS [1, 1, 1] = 5 := by decide
theorem n000 : Cl.numS [0, 0, 0] = 0 := by decide
theorem tz_1 : Cl.tz 1 = 0 := Cl.tz_odd rfl
theorem tz_2 : Cl.tz 2 = 1 := by rw [Cl.tz_even (by omega) rfl]; rw [show 2 / 2 = 1 from rfl, tz_1]
theorem tz_3 : Cl.tz 3 = 0 := Cl.tz_odd rfl
theorem tz_4 : Cl.tz 4 = 2 := by rw [Cl.tz_even (by omega) rfl]; rw [show 4 / 2 = 2 from rfl, tz_2]
theorem tz_5 : Cl.tz 5 = 0 := Cl.tz_odd rfl
theorem wayN50 : Cl.wayN 5 0 = [0, 2, 0, 1, 0] := by
  simp [Cl.wayN, Cl.distS, Cl.posS, Cl.nextS, List.range_succ, tz_1, tz_2, tz_3, tz_4, tz_5]
theorem works_way : Cl.wayE [1, 1, 1] [0, 0, 0] = 0 ∧ Cl.wayL [1, 1, 1] [0, 0, 0] = [0, 2, 0, 1, 0] := by
  have h : Cl.wayE [1, 1, 1] [0, 0, 0] = 0 := by decide
  exact ⟨h, by rw [Cl.wayL, if_pos h, n111, n000, wayN50]⟩
theorem w_way (h : Wk w0 w ((B, m, [0, 0, 0]) :: (A, n, [1, 1, 1]) :: l)) : Calls Tryd.prog 64 #[.slice A n c, .slice B m d] w fun e w' => ∃ A n c, e = .returned (.tuple #[.slice A n c, .int .i64 0]) ∧ Wk w0 w' ((A, n, [0, 2, 0, 1, 0]) :: l) := by
  refine (Cl.Way_any A B n m c d [1, 1, 1] [0, 0, 0] w (h.get (.tail _ (.head _))) (h.get (.head _)) (max_of (h.get (.tail _ (.head _))) (by decide)) (max_of (h.get (.head _)) (by decide)) h.2.2).mono ?_
  intro e w' hr
  rw [works_way.1, works_way.2] at hr; exact w_retL h.drop.drop hr
end
end Tw
end Go.Proofs.YtkbfmogjhjdjmaaDoor
