/- Served. -/
import Derived.Test.YtfcfhiekkpflcaaDoorExch
import Derived.Deep.CutRange
namespace Go.Proofs.YtfcfhiekkpflcaaDoor
open Go.RowKit
/-- places of coins, places of notes -/
def cP : Word → Nat → List Int
  | [], _ => []
  | y :: l, i => if y = 99 then (i : Int) :: cP l (i + 1) else cP l (i + 1)
def nP : Word → Nat → List Int
  | [], _ => []
  | y :: l, i => if y = 99 then nP l (i + 1) else (i : Int) :: nP l (i + 1)
def serC (l : Word) (b : Nat) : List Int := List.replicate b (-1) ++ cP l 0
theorem cP_len (l : Word) : ∀ i, (cP l i).length + (nP l i).length = l.length := by
  induction l with
  | nil => intro i; rfl
  | cons y l ih =>
    intro i
    have := ih (i + 1)
    rw [cP, nP]
    split <;> simp only [List.length_cons] <;> omega
theorem cP_bound (l : Word) : ∀ i x, x ∈ cP l i → 0 ≤ x ∧ x ≤ i + l.length := by
  induction l with
  | nil => intro i x h; cases h
  | cons y l ih =>
    intro i x h
    rw [cP] at h
    simp only [List.length_cons]
    split at h
    · rcases List.mem_cons.1 h with rfl | h
      · omega
      · have := ih _ _ h; omega
    · have := ih _ _ h; omega
theorem nP_bound (l : Word) : ∀ i x, x ∈ nP l i → 0 ≤ x ∧ x ≤ i + l.length := by
  induction l with
  | nil => intro i x h; cases h
  | cons y l ih =>
    intro i x h
    rw [nP] at h
    simp only [List.length_cons]
    split at h
    · have := ih _ _ h; omega
    · rcases List.mem_cons.1 h with rfl | h
      · omega
      · have := ih _ _ h; omega
/-- who is paid now: the k-th note as soon as it, and the k-th coin, are there -/
def payL (N C : List Int) (i : Int) : Nat → Nat → List Int
  | 0, _ => []
  | m + 1, p => if N.getD p 0 ≤ i ∧ C.getD p 0 ≤ i then N.getD p 0 :: payL N C i m (p + 1) else []
def srvT (N C : List Int) : Word → Nat → Nat → List Int
  | [], _, _ => []
  | y :: l, i, p => (if y = 99 then [(i : Int)] else []) ++ (payL N C i (N.length - p) p ++ srvT N C l (i + 1) (p + (payL N C i (N.length - p) p).length))
def serL (l : Word) (b : Int) : List Int := if opT l b = 0 ∧ (nP l 0).length ≤ (serC l b.toNat).length then srvT (nP l 0) (serC l b.toNat) l 0 0 else []
def serE (l : Word) (b : Int) : Int := if opT l b ≠ 0 then opT l b else if (nP l 0).length ≤ (serC l b.toNat).length then 0 else 12
/-- two own lists lie in different blocks -/
def Dj (v u : Value) : Prop := ∀ g, v.ownBlock = some g → u.ownBlock ≠ some g
theorem Dj.symm {v u : Value} (h : Dj v u) : Dj u v := fun g h1 h2 => h g h2 h1
theorem Dj.nil (v : Value) : Dj v (.slice none 0 0) := fun g _ h => by simp [Value.ownBlock] at h
theorem Dj.push {w : World} {base : Nat} {v u : Value} {xs : List Int} {g n c : Nat} (h : Dj v u) (hu : OwnI w base u xs) (hg : v.ownBlock = some g ∨ g = w.heap.size) : Dj (.slice (some ⟨g, 0, none⟩) n c) u := by
  intro k hk hu2
  obtain rfl : g = k := by simpa [Value.ownBlock] using hk
  rcases hg with hg | hg
  · exact h g hg hu2
  · have := hu.lt hu2
    omega
set_option maxRecDepth 100000 in
set_option maxHeartbeats 4000000 in
theorem Served_any (s : ByteArray) (b : Int) (w : World) : Calls Tryd.prog 37 #[.string s, .int .i64 b] w (RetIE (serL (bts s) b) (serE (bts s) b) w) := by
  obtain ⟨k, hk⟩ : ∃ k, opT (bts s) b = k := ⟨_, rfl⟩
  have hkH := Lib.hid hk
  by_cases h0 : k = 0
  · subst h0
    obtain ⟨h1, h2, h3⟩ := opT_zero hk
    obtain ⟨h4, h5⟩ := chkT_zero h1
    rw [bts_len] at h4
    have hokH := Lib.hid h5
    obtain ⟨b, rfl⟩ : ∃ b' : Nat, b = b' := ⟨b.toNat, by omega⟩
    obtain ⟨C, hC⟩ : ∃ C, serC (bts s) b = C := ⟨_, rfl⟩
    obtain ⟨N, hN⟩ : ∃ N, nP (bts s) 0 = N := ⟨_, rfl⟩
    have hcn := cP_len (bts s) 0
    have hCl : C.length = b + (cP (bts s) 0).length := by rw [← hC]; simp [serC]
    rw [hN, bts_len] at hcn
    have hC0 := Lib.hid (show List.replicate b (-1) ++ ([] ++ cP ((bts s).drop 0) 0) = C from hC)
    have hN0 := Lib.hid (show [] ++ nP ((bts s).drop 0) 0 = N from hN)
    have hCb := Lib.hid (show ∀ x ∈ C, -1 ≤ x ∧ x ≤ 16 by
      intro x hx
      rw [← hC] at hx
      rcases List.mem_append.1 hx with hx | hx
      · have := (List.mem_replicate.1 hx).2; omega
      · have := cP_bound _ _ _ hx; rw [bts_len] at this; omega)
    have hNb := Lib.hid (show ∀ x ∈ N, -1 ≤ x ∧ x ≤ 16 by
      intro x hx
      rw [← hN] at hx
      have := nP_bound _ _ _ hx; rw [bts_len] at this; omega)
    have hSE := Lib.hid (show serL (bts s) (b : Int) = (if N.length ≤ C.length then srvT N C (bts s) 0 0 else []) ∧ serE (bts s) (b : Int) = if N.length ≤ C.length then 0 else 12 by
      unfold serL serE
      rw [hk, Int.toNat_natCast, hC, hN]
      exact ⟨by simp, by simp⟩)
    have hCl2 : C.length ≤ 36 := by omega
    have hNl2 : N.length ≤ 16 := by omega
    obtain ⟨R, hR⟩ : ∃ R, srvT N C (bts s) 0 0 = R := ⟨_, rfl⟩
    obtain ⟨RL, hRL⟩ : ∃ RL, (if N.length ≤ C.length then srvT N C (bts s) 0 0 else []) = RL := ⟨_, rfl⟩
    obtain ⟨RE, hRE⟩ : ∃ RE : Int, (if N.length ≤ C.length then 0 else 12) = RE := ⟨_, rfl⟩
    rw [hSE.out.1, hSE.out.2, hRL, hRE]
    rw [hR] at hRL
    replace hRL := Lib.hid hRL
    replace hRE := Lib.hid hRE
    clear hSE
    have hR0 := Lib.hid (show [] ++ srvT N C ((bts s).drop 0) 0 0 = R from hR)
    clear hk h1 h5 hC hN hCl hcn hR
    go_enter Tryd.func37, Tryd.ntmps37
    go_wp2_with (first
      | (go_at_call 47; (with_reducible refine (opened_any _ _ _).mono ?_); rintro e w1 ⟨rfl, hb1⟩; rw [hkH.out]))
    go_loopw [7, 22] (fun o v wa => ∃ i : Nat, i ≤ b ∧ v = .int .i64 i ∧ OwnI wa w1.heap.size o (List.replicate i (-1)) ∧ Below w1.heap.size w1 wa) (fun _ v _ => b - (intOf v).toNat)
    case atStart => exact ⟨0, by omega, rfl, OwnI.nil _ _, Below.refl _ _⟩
    case round =>
      obtain ⟨wa, rfl⟩ : ∃ x, x = wr := ⟨wr, rfl⟩
      obtain ⟨i, hi, rfl, ho, hbe⟩ := hrel
      by_cases hlt : i < b
      · have hlti : (i : Int) < b := by omega
        have hrs := Lib.hid (show List.replicate (i + 1) (-1 : Int) = List.replicate i (-1) ++ [-1] by rw [List.replicate_succ'])
        have hpl : (List.replicate i (-1 : Int)).length ≤ 1000000000 := by rw [List.length_replicate]; omega
        go_wp2_with (first
          | (at_builtin
             refine wpList_push rfl _ _ rfl rfl (ho.none_ (World.grownBy_alloc wa _ none)) wa.heap.size 1 (-1) rfl (Blk.new wa _ _) hpl (by have := hbe.size; show _ ≤ (wa.heap.push _).size; simp; omega) ?_
             intro g6 cap6 w6 ho6 hgr6 _ _
             have hb6 := (hbe.alloc hbe.size (.cells #[.int .i64 (-1)] 3)).grown hgr6 (by have := hbe.size; show _ ≤ (wa.heap.push _).size; simp; omega) (fun g hg => ho.ge hg)))
        go_roundw
        case rel => exact ⟨i + 1, by omega, by go_num, by rw [hrs.out]; simpa [OwnI] using ho6, hb6⟩
        case measure => simp only [intOf]; omega
      · have hlti : ¬ (i : Int) < b := by omega
        obtain rfl : i = b := by omega
        go_wp2_with (fail)
        have hbK : w1.heap.size ≤ wa.heap.size := hbe.size
        go_loopw [7, 8] (fun o7 o8 wb => ∃ (pos : Nat) (P Q : List Int), pos ≤ s.size ∧ P.length ≤ pos ∧ Q.length ≤ pos ∧ Hid (List.replicate i (-1) ++ (P ++ cP ((bts s).drop pos) pos) = C) ∧ Hid (Q ++ nP ((bts s).drop pos) pos = N) ∧ OwnI wb w1.heap.size o7 (List.replicate i (-1) ++ P) ∧ OwnI wb w1.heap.size o8 Q ∧ Dj o7 o8 ∧ wb.heap[wa.heap.size]? = some (.stringIter s pos) ∧ Below w1.heap.size w1 wb) (fun _ _ wb => s.size - wb.iterPos wa.heap.size)
        case atStart => exact ⟨0, [], [], by omega, by simp, by simp, hC0, hN0, by rw [List.append_nil]; exact ho.none_ (World.grownBy_alloc wa _ none), OwnI.nil _ _, Dj.nil _, by first | exact World.iter_heap wa s 0 | simp, hbe.alloc hbK _⟩
        case round =>
          obtain ⟨wb, rfl⟩ : ∃ x, x = wr := ⟨wr, rfl⟩
          obtain ⟨pos, P, Q, hpos, hPl, hQl, hCH, hNH, hoC, hoN, hdj, hit, hbe2⟩ := hrel
          by_cases hp : pos < s.size
          · obtain ⟨y, wn, hy, hitn, hgn, hyy⟩ := iter_cn hokH.out hit hp
            have hben := below_some hbe2 hgn hbe2.size hbK
            have hCn := hoC.some_ hgn (hoC.ne_iter hit)
            have hNn := hoN.some_ hgn (hoN.ne_iter hit)
            have hd : (bts s).drop pos = y :: (bts s).drop (pos + 1) := by
              obtain ⟨hl, he⟩ := List.getElem?_eq_some_iff.1 hy
              rw [List.drop_eq_getElem_cons hl, he]
            have hCo := hCH.out
            have hNo := hNH.out
            rw [hd] at hCo hNo
            have hCl3 : (List.replicate i (-1 : Int) ++ P).length ≤ 1000000000 := by rw [List.length_append, List.length_replicate]; omega
            have hQl3 : Q.length ≤ 1000000000 := by omega
            have hszn := hben.size
            rcases hyy with ⟨rfl, hnx⟩ | ⟨rfl, hnx⟩
            · have hC1 := Lib.hid (show List.replicate i (-1) ++ ((P ++ [(pos : Int)]) ++ cP ((bts s).drop (pos + 1)) (pos + 1)) = C by rw [← hCo, cP, if_pos rfl, List.append_assoc P]; rfl)
              have hN1 := Lib.hid (show Q ++ nP ((bts s).drop (pos + 1)) (pos + 1) = N by rw [← hNo, nP, if_pos rfl])
              clear hCo hNo hd hy
              go_wp2_with (first
                | (at_builtin
                   refine wpList_push rfl _ _ rfl rfl (hCn.none_ (World.grownBy_alloc wn _ none)) wn.heap.size 1 (pos : Int) rfl (Blk.new wn _ _) hCl3 (by show _ ≤ (wn.heap.push _).size; simp; omega) ?_
                   intro g6 cap6 w6 ho6 hgr6 hat6 _
                   have hb6 := (hben.alloc hben.size (.cells #[.int .i64 (pos : Int)] 3)).grown hgr6 (by show _ ≤ (wn.heap.push _).size; simp; omega) (fun g hg => hCn.ge hg)
                   have hNa := hNn.none_ (World.grownBy_alloc wn (.cells #[.int .i64 (pos : Int)] 3) none)
                   have hN6 := hNa.keep (w' := w6) fun g hg => hgr6.block g (hNa.lt hg) (fun e => hdj g e.symm hg)
                   have hdj6 := hdj.push (n := (List.replicate i (-1 : Int) ++ P).length + 1) (c := cap6) hNa hat6
                   have hit6 := iter_stay (iter_stay hitn (World.grownBy_alloc wn (.cells #[.int .i64 (pos : Int)] 3) none) (by simp)) hgr6 (fun e => hCn.ne_iter hitn e.symm)))
              go_roundw
              case rel => exact ⟨pos + 1, P ++ [(pos : Int)], Q, by omega, by simp; omega, by omega, hC1, hN1, by rw [← List.append_assoc]; simpa [OwnI] using ho6, hN6, by simpa using hdj6, hit6, hb6⟩
              case measure => simp only [World.iterPos, hit, hit6]; omega
            · have hC1 := Lib.hid (show List.replicate i (-1) ++ (P ++ cP ((bts s).drop (pos + 1)) (pos + 1)) = C by rw [← hCo, cP, if_neg (by decide)])
              have hN1 := Lib.hid (show (Q ++ [(pos : Int)]) ++ nP ((bts s).drop (pos + 1)) (pos + 1) = N by rw [← hNo, nP, if_neg (by decide), List.append_assoc]; rfl)
              clear hCo hNo hd hy
              go_wp2_with (first
                | (at_builtin
                   refine wpList_push rfl _ _ rfl rfl (hNn.none_ (World.grownBy_alloc wn _ none)) wn.heap.size 1 (pos : Int) rfl (Blk.new wn _ _) hQl3 (by show _ ≤ (wn.heap.push _).size; simp; omega) ?_
                   intro g6 cap6 w6 ho6 hgr6 hat6 _
                   have hb6 := (hben.alloc hben.size (.cells #[.int .i64 (pos : Int)] 3)).grown hgr6 (by show _ ≤ (wn.heap.push _).size; simp; omega) (fun g hg => hNn.ge hg)
                   have hCa := hCn.none_ (World.grownBy_alloc wn (.cells #[.int .i64 (pos : Int)] 3) none)
                   have hC6 := hCa.keep (w' := w6) fun g hg => hgr6.block g (hCa.lt hg) (fun e => hdj g hg e.symm)
                   have hdj6 := (hdj.symm.push (n := Q.length + 1) (c := cap6) hCa hat6).symm
                   have hit6 := iter_stay (iter_stay hitn (World.grownBy_alloc wn (.cells #[.int .i64 (pos : Int)] 3) none) (by simp)) hgr6 (fun e => hNn.ne_iter hitn e.symm)))
              go_roundw
              case rel => exact ⟨pos + 1, P, Q ++ [(pos : Int)], by omega, by omega, by simp; omega, hC1, hN1, hC6, by simpa [OwnI] using ho6, by simpa using hdj6, hit6, hb6⟩
              case measure => simp only [World.iterPos, hit, hit6]; omega
          · have hnx := iter_end hit hp
            have hCe := hCH.out
            have hNe := hNH.out
            rw [List.drop_of_length_le (by rw [bts_len]; omega)] at hCe hNe
            rw [cP, List.append_nil] at hCe
            rw [nP, List.append_nil] at hNe
            rw [hCe] at hoC
            rw [hNe] at hoN
            clear hCe hNe hCH hNH
            obtain ⟨AC, cC, hvC, hrC⟩ := hoC.reads
            obtain ⟨AN, cN, hvN, hrN⟩ := hoN.reads
            subst hvC
            subst hvN
            by_cases hNC : N.length ≤ C.length
            · have hNCi : ¬ (C.length : Int) < N.length := by omega
              have hRL1 := Lib.hid (show R = RL by rw [← hRL.out, if_pos hNC])
              have hRE1 := Lib.hid (show (0 : Int) = RE by rw [← hRE.out, if_pos hNC])
              go_wp2_with (fail)
              go_loopw [11, 12] (fun o v wc => ∃ (pos p : Nat) (O : List Int), pos ≤ s.size ∧ v = .int .i64 p ∧ p ≤ N.length ∧ O.length ≤ pos + p ∧ Hid (O ++ srvT N C ((bts s).drop pos) pos p = R) ∧ OwnI wc wb.heap.size o O ∧ wc.heap[wb.heap.size]? = some (.stringIter s pos) ∧ Below wb.heap.size wb wc) (fun _ _ wc => s.size - wc.iterPos wb.heap.size)
              case atStart => exact ⟨0, 0, [], by omega, rfl, by omega, by simp, hR0, OwnI.nil _ _, by first | exact World.iter_heap wb s 0 | simp, (Below.refl _ _).alloc (Nat.le_refl _) _⟩
              case round =>
                obtain ⟨wc, rfl⟩ : ∃ x, x = wr := ⟨wr, rfl⟩
                obtain ⟨pos3, p, O, hpos3, rfl, hp3, hOl, hL, hoO, hit3, hbe3⟩ := hrel
                by_cases hp4 : pos3 < s.size
                · obtain ⟨y, wn, hy, hitn, hgn, hyy⟩ := iter_cn hokH.out hit3 hp4
                  have hben := below_some hbe3 hgn hbe3.size (Nat.le_refl _)
                  have hOn := hoO.some_ hgn (hoO.ne_iter hit3)
                  have hd : (bts s).drop pos3 = y :: (bts s).drop (pos3 + 1) := by
                    obtain ⟨hl, he⟩ := List.getElem?_eq_some_iff.1 hy
                    rw [List.drop_eq_getElem_cons hl, he]
                  have hLo := hL.out
                  rw [hd, srvT, ← List.append_assoc] at hLo
                  have hOl3 : O.length ≤ 1000000000 := by omega
                  have hszn := hben.size
                  obtain ⟨O1, hO1⟩ : ∃ O1, O ++ (if y = 99 then [(pos3 : Int)] else []) = O1 := ⟨_, rfl⟩
                  rw [hO1] at hLo
                  have hIn0 := Lib.hid hLo
                  have hO1l : O1.length ≤ pos3 + 1 + p := by rw [← hO1]; split <;> simp <;> omega
                  have hnz : ∃ z : Int, ((y = 99 ∧ z = 99) ∨ (y = 110 ∧ z = 110)) ∧ ∀ ty, (Instr.next (.pointer (some ⟨wb.heap.size, 0, none⟩)) true ty).run Tryd.prog wc = .ok (.tuple #[.bool true, .int .i64 pos3, .int .i32 z]) wn := by
                    rcases hyy with ⟨h, h2⟩ | ⟨h, h2⟩
                    · exact ⟨99, Or.inl ⟨h, rfl⟩, h2⟩
                    · exact ⟨110, Or.inr ⟨h, rfl⟩, h2⟩
                  obtain ⟨z, hyz, hnx⟩ := hnz
                  replace hO1 := Lib.hid hO1
                  clear hLo hd hy hyy
                  go_upto_if 56 with (fail)
                  go_cut [11] from 51 to 89 (fun o wx => OwnI wx wb.heap.size o O1 ∧ wx.heap[wb.heap.size]? = some (.stringIter s (pos3 + 1)) ∧ Below wb.heap.size wb wx)
                  case first =>
                    rcases hyz with ⟨rfl, rfl⟩ | ⟨rfl, rfl⟩
                    · have hO2 := Lib.hid (show O ++ [(pos3 : Int)] = O1 from hO1.out)
                      go_wp2_with (first
                        | (at_builtin
                           refine wpList_push rfl _ _ rfl rfl (hOn.none_ (World.grownBy_alloc wn _ none)) wn.heap.size 1 (pos3 : Int) rfl (Blk.new wn _ _) hOl3 (by show _ ≤ (wn.heap.push _).size; simp; omega) ?_
                           intro g6 cap6 w6 ho6 hgr6 hat6 _
                           have hb6 := (hben.alloc hben.size (.cells #[.int .i64 (pos3 : Int)] 3)).grown hgr6 (by show _ ≤ (wn.heap.push _).size; simp; omega) (fun g hg => hOn.ge hg)
                           have hit6 := iter_stay (iter_stay hitn (World.grownBy_alloc wn (.cells #[.int .i64 (pos3 : Int)] 3) none) (by simp)) hgr6 (fun e => hOn.ne_iter hitn e.symm)))
                      go_meet
                      exact ⟨by rw [← hO2.out]; simpa [OwnI] using ho6, hit6, hb6⟩
                    · have hO2 := Lib.hid (show O = O1 by have := hO1.out; rw [if_neg (by decide), List.append_nil] at this; exact this)
                      rw [hO2.out] at hOn
                      go_wp2_with (fail)
                      go_meet
                      exact ⟨hOn, hitn, hben⟩
                  case rest =>
                    obtain ⟨hoO1, hit1, hbe1⟩ := hcut
                    go_wp2_with (fail)
                    go_loopw [11, 12] (fun o v wd => ∃ (p1 : Nat) (O2 : List Int), v = .int .i64 p1 ∧ p ≤ p1 ∧ p1 ≤ N.length ∧ O2.length ≤ pos3 + 1 + p1 ∧ Hid (O2 ++ (payL N C pos3 (N.length - p1) p1 ++ srvT N C ((bts s).drop (pos3 + 1)) (pos3 + 1) (p1 + (payL N C pos3 (N.length - p1) p1).length)) = R) ∧ OwnI wd wb.heap.size o O2 ∧ wd.heap[wb.heap.size]? = some (.stringIter s (pos3 + 1)) ∧ Below wb.heap.size wb wd) (fun _ v _ => N.length - (intOf v).toNat)
                    case atStart => exact ⟨p, O1, rfl, by omega, by omega, by omega, hIn0, hoO1, hit1, hbe1⟩
                    case round =>
                      obtain ⟨wd, rfl⟩ : ∃ x, x = wr := ⟨wr, rfl⟩
                      obtain ⟨p1, O2, rfl, hpp, hp1, hO2l, hI, ho2, hit2, hbe4⟩ := hrel
                      have hIo := hI.out
                      by_cases hpn : p1 < N.length
                      · have hpni : (p1 : Int) < N.length := by omega
                        obtain ⟨adN, uN, rfl, hadN, huN, hcN⟩ := Reads.at_ (hrN.below hbe4) hpn
                        obtain ⟨adC, uC, rfl, hadC, huC, hcC⟩ := Reads.at_ (hrC.below hbe4) (show p1 < C.length by omega)
                        obtain ⟨x, hx⟩ : ∃ x, N[p1]? = some x := ⟨_, List.getElem?_eq_getElem hpn⟩
                        obtain ⟨y1, hy1⟩ : ∃ x, C[p1]? = some x := ⟨_, List.getElem?_eq_getElem (show p1 < C.length by omega)⟩
                        obtain rfl : uN = .int .i64 x := by
                          rw [ints, List.getElem?_map, hx] at huN
                          simpa using huN.symm
                        obtain rfl : uC = .int .i64 y1 := by
                          rw [ints, List.getElem?_map, hy1] at huC
                          simpa using huC.symm
                        have hxg : N.getD p1 0 = x := by rw [List.getD, hx]; rfl
                        have hyg : C.getD p1 0 = y1 := by rw [List.getD, hy1]; rfl
                        have hC1i : (p1 : Int) < C.length := by omega
                        rw [show N.length - p1 = (N.length - (p1 + 1)) + 1 by omega, payL, hxg, hyg] at hIo
                        have hszd := hbe4.size
                        have hO3 : O2.length ≤ 1000000000 := by omega
                        by_cases hx1 : x ≤ pos3
                        · by_cases hy2 : y1 ≤ pos3
                          · rw [if_pos ⟨hx1, hy2⟩] at hIo
                            have hIn := Lib.hid (show (O2 ++ [x]) ++ (payL N C pos3 (N.length - (p1 + 1)) (p1 + 1) ++ srvT N C ((bts s).drop (pos3 + 1)) (pos3 + 1) ((p1 + 1) + (payL N C pos3 (N.length - (p1 + 1)) (p1 + 1)).length)) = R by
                              rw [← hIo, List.length_cons, show p1 + 1 + (payL N C pos3 (N.length - (p1 + 1)) (p1 + 1)).length = p1 + ((payL N C pos3 (N.length - (p1 + 1)) (p1 + 1)).length + 1) by omega]
                              simp)
                            clear hIo huN huC hx hy1 hxg hyg
                            go_wp2_with (first
                              | (at_builtin
                                 refine wpList_push rfl _ _ rfl rfl (ho2.none_ (World.grownBy_alloc wd _ none)) wd.heap.size 1 x rfl (Blk.new wd _ _) hO3 (by show _ ≤ (wd.heap.push _).size; simp; omega) ?_
                                 intro g6 cap6 w6 ho6 hgr6 hat6 _
                                 have hb6 := (hbe4.alloc hbe4.size (.cells #[.int .i64 x] 3)).grown hgr6 (by show _ ≤ (wd.heap.push _).size; simp; omega) (fun g hg => ho2.ge hg)
                                 have hit6 := iter_stay (iter_stay hit2 (World.grownBy_alloc wd (.cells #[.int .i64 x] 3) none) (by simp)) hgr6 (fun e => ho2.ne_iter hit2 e.symm)))
                            go_roundw
                            case rel => exact ⟨p1 + 1, O2 ++ [x], by go_num, by omega, by omega, by simp; omega, hIn, by simpa [OwnI] using ho6, hit6, hb6⟩
                            case measure => simp only [intOf]; omega
                          · rw [if_neg (fun h => hy2 h.2)] at hIo
                            have hIn := Lib.hid (show O2 ++ srvT N C ((bts s).drop (pos3 + 1)) (pos3 + 1) p1 = R from hIo)
                            have hdx : decide (x ≤ (pos3 : Int)) = true := decide_eq_true hx1
                            have hdy : decide (y1 ≤ (pos3 : Int)) = false := decide_eq_false hy2
                            clear hIo huN huC hx hy1 hxg hyg
                            go_wp2_with (fail)
                            go_roundw
                            case rel => exact ⟨pos3 + 1, p1, O2, by omega, rfl, by omega, by omega, hIn, ho2, hit2, hbe4⟩
                            case measure => simp only [World.iterPos, hit3, hit2]; omega
                        · rw [if_neg (fun h => hx1 h.1)] at hIo
                          have hIn := Lib.hid (show O2 ++ srvT N C ((bts s).drop (pos3 + 1)) (pos3 + 1) p1 = R from hIo)
                          have hdx : decide (x ≤ (pos3 : Int)) = false := decide_eq_false hx1
                          clear hIo huN huC hx hy1 hxg hyg
                          go_wp2_with (fail)
                          go_roundw
                          case rel => exact ⟨pos3 + 1, p1, O2, by omega, rfl, by omega, by omega, hIn, ho2, hit2, hbe4⟩
                          case measure => simp only [World.iterPos, hit3, hit2]; omega
                      · have hpni : ¬ (p1 : Int) < N.length := by omega
                        have hpd : decide ((p1 : Int) < N.length) = false := decide_eq_false hpni
                        rw [show N.length - p1 = 0 by omega, payL] at hIo
                        have hIn := Lib.hid (show O2 ++ srvT N C ((bts s).drop (pos3 + 1)) (pos3 + 1) p1 = R from hIo)
                        clear hIo
                        go_wp2_with (fail)
                        go_roundw
                        case rel => exact ⟨pos3 + 1, p1, O2, by omega, rfl, by omega, by omega, hIn, ho2, hit2, hbe4⟩
                        case measure => simp only [World.iterPos, hit3, hit2]; omega
                · have hnx := iter_end hit3 hp4
                  have hOR := Lib.hid (show O = R by
                    have := hL.out
                    rw [List.drop_of_length_le (by rw [bts_len]; omega), srvT, List.append_nil] at this
                    exact this)
                  rw [hOR.out] at hoO
                  go_wp2_with (fail)
                  go_ret2
                  exact ⟨_, by rw [← hRE1.out]; rfl, by rw [← hRL1.out]; exact hoO.rebase (by have := hbe2.size; have := hb1.size; omega), hb1.trans ((hbe2.trans (hbe3.mono hbe2.size)).mono hb1.size)⟩
            · have hNCi : (C.length : Int) < N.length := by omega
              have hRL1 := Lib.hid (show [] = RL by rw [← hRL.out, if_neg hNC])
              have hRE1 := Lib.hid (show (12 : Int) = RE by rw [← hRE.out, if_neg hNC])
              go_wp2_with (fail)
              go_ret2
              exact ⟨_, by rw [← hRE1.out]; rfl, by rw [← hRL1.out]; exact OwnI.nil _ _, hb1.trans (hbe2.mono hb1.size)⟩
  · have hE := Lib.hid (show serL (bts s) b = [] ∧ serE (bts s) b = k by unfold serL serE; rw [hk]; simp [h0])
    have hk0 : (k != 0) = true := by simp [h0]
    rw [hE.out.1, hE.out.2]
    clear hk
    go_enter Tryd.func37, Tryd.ntmps37
    go_wp2_with (first
      | (go_at_call 47; (with_reducible refine (opened_any _ _ _).mono ?_); rintro e w1 ⟨rfl, hb1⟩; rw [hkH.out]))
    go_ret2
    exact ⟨_, rfl, OwnI.nil _ _, hb1⟩
end Go.Proofs.YtfcfhiekkpflcaaDoor
