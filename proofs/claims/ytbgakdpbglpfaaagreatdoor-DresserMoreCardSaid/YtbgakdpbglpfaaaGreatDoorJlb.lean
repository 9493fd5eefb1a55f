/- The texts DrLb to DrLc, joined by joinlist.py: their statements say what each proves. -/
import Derived.Test.YtbgakdpbglpfaaaGreatDoorDrLa
import Derived.Test.YtbgakdpbglpfaaaGreatDoorDrDo
import Derived.Lib.SplitLaws
-- the text DrLb
namespace Go.Proofs.YtbgakdpbglpfaaaGreatDoor
open Go.RowKit
namespace Dr
set_option linter.unusedSimpArgs false
def ifaceD (D : Deed) : Value := .iface (deedT D) (deedV D)
def kindF : Nat → Value
  | 1 => .func (.func 157) #[] #[]
  | 2 => .func (.func 158) #[] #[]
  | 3 => .func (.func 159) #[] #[]
  | 4 => .func (.func 160) #[] #[]
  | 5 => .func (.func 161) #[] #[]
  | 6 => .func (.func 162) #[] #[]
  | 7 => .func (.func 163) #[] #[]
  | 8 => .func (.func 164) #[] #[]
  | 9 => .func (.func 165) #[] #[]
  | _ => .nilFunc
def bstr (l : List UInt8) : ByteArray := ⟨l.toArray⟩
theorem byts_bstr (l : List UInt8) : byts (bstr l) = l := rfl
theorem bstr_byts (s : ByteArray) : bstr (byts s) = s := by
  apply ByteArray.ext
  simp [bstr, byts]
theorem lit_no {s : ByteArray} {l : List UInt8} (h : byts s ≠ l) : (s.toList == l) = false := by
  rw [ByteArray.toList_eq]
  simpa using h
theorem lit_yes {s : ByteArray} {l : List UInt8} (h : byts s = l) : (s.toList == l) = true := by
  rw [ByteArray.toList_eq]
  simpa using h
theorem lit_ne {s : ByteArray} {l : List UInt8} (h : byts s ≠ l) : ¬ s.toList = l := by
  rw [ByteArray.toList_eq]
  exact h
theorem lit_eq {s : ByteArray} {l : List UInt8} (h : byts s = l) : s.toList = l := by
  rw [ByteArray.toList_eq]
  exact h
set_option maxRecDepth 100000 in
theorem kind_any (s : ByteArray) (w : World) : Calls Tryz.prog 122 #[.string s] w fun e w' => e = .returned (.tuple #[.string (bstr (formP (kindP (byts s)))), kindF (kindP (byts s))]) ∧ w' = w := by
  by_cases h0 : byts s = [100, 114, 97, 119, 101, 114]
  · have hk : kindP (byts s) = 1 := by rw [h0]; decide
    rw [hk]
    have e0 := lit_yes h0
    have f0 := lit_eq h0
    clear hk h0
    go_enter Tryz.func122, Tryz.ntmps122
    go_wp2_with (fail)
    go_ret2
    exact ⟨rfl, rfl⟩
  have e0 := lit_no h0
  have f0 := lit_ne h0
  by_cases h1 : byts s = [115, 105, 122, 101]
  · have hk : kindP (byts s) = 2 := by rw [h1]; decide
    rw [hk]
    have e1 := lit_yes h1
    have f1 := lit_eq h1
    clear hk h1
    go_enter Tryz.func122, Tryz.ntmps122
    go_wp2_with (fail)
    go_ret2
    exact ⟨rfl, rfl⟩
  have e1 := lit_no h1
  have f1 := lit_ne h1
  by_cases h2 : byts s = [98, 117, 121]
  · have hk : kindP (byts s) = 3 := by rw [h2]; decide
    rw [hk]
    have e2 := lit_yes h2
    have f2 := lit_eq h2
    clear hk h2
    go_enter Tryz.func122, Tryz.ntmps122
    go_wp2_with (fail)
    go_ret2
    exact ⟨rfl, rfl⟩
  have e2 := lit_no h2
  have f2 := lit_ne h2
  by_cases h3 : byts s = [111, 114, 100, 101, 114]
  · have hk : kindP (byts s) = 4 := by rw [h3]; decide
    rw [hk]
    have e3 := lit_yes h3
    have f3 := lit_eq h3
    clear hk h3
    go_enter Tryz.func122, Tryz.ntmps122
    go_wp2_with (fail)
    go_ret2
    exact ⟨rfl, rfl⟩
  have e3 := lit_no h3
  have f3 := lit_ne h3
  by_cases h4 : byts s = [98, 97, 99, 107]
  · have hk : kindP (byts s) = 5 := by rw [h4]; decide
    rw [hk]
    have e4 := lit_yes h4
    have f4 := lit_eq h4
    clear hk h4
    go_enter Tryz.func122, Tryz.ntmps122
    go_wp2_with (fail)
    go_ret2
    exact ⟨rfl, rfl⟩
  have e4 := lit_no h4
  have f4 := lit_ne h4
  by_cases h5 : byts s = [109, 111, 116, 104]
  · have hk : kindP (byts s) = 6 := by rw [h5]; decide
    rw [hk]
    have e5 := lit_yes h5
    have f5 := lit_eq h5
    clear hk h5
    go_enter Tryz.func122, Tryz.ntmps122
    go_wp2_with (fail)
    go_ret2
    exact ⟨rfl, rfl⟩
  have e5 := lit_no h5
  have f5 := lit_ne h5
  by_cases h6 : byts s = [99, 111, 117, 110, 116]
  · have hk : kindP (byts s) = 7 := by rw [h6]; decide
    rw [hk]
    have e6 := lit_yes h6
    have f6 := lit_eq h6
    clear hk h6
    go_enter Tryz.func122, Tryz.ntmps122
    go_wp2_with (fail)
    go_ret2
    exact ⟨rfl, rfl⟩
  have e6 := lit_no h6
  have f6 := lit_ne h6
  by_cases h7 : byts s = [115, 104, 117, 116]
  · have hk : kindP (byts s) = 8 := by rw [h7]; decide
    rw [hk]
    have e7 := lit_yes h7
    have f7 := lit_eq h7
    clear hk h7
    go_enter Tryz.func122, Tryz.ntmps122
    go_wp2_with (fail)
    go_ret2
    exact ⟨rfl, rfl⟩
  have e7 := lit_no h7
  have f7 := lit_ne h7
  by_cases h8 : byts s = [111, 112, 101, 110]
  · have hk : kindP (byts s) = 9 := by rw [h8]; decide
    rw [hk]
    have e8 := lit_yes h8
    have f8 := lit_eq h8
    clear hk h8
    go_enter Tryz.func122, Tryz.ntmps122
    go_wp2_with (fail)
    go_ret2
    exact ⟨rfl, rfl⟩
  have e8 := lit_no h8
  have f8 := lit_ne h8
  have hk : kindP (byts s) = 0 := by
    unfold kindP
    rw [if_neg (by simpa using h0)]
    rw [if_neg (by simpa using h1)]
    rw [if_neg (by simpa using h2)]
    rw [if_neg (by simpa using h3)]
    rw [if_neg (by simpa using h4)]
    rw [if_neg (by simpa using h5)]
    rw [if_neg (by simpa using h6)]
    rw [if_neg (by simpa using h7)]
    rw [if_neg (by simpa using h8)]
  rw [hk]
  clear hk h0 h1 h2 h3 h4 h5 h6 h7 h8
  go_enter Tryz.func122, Tryz.ntmps122
  go_wp2_with (fail)
  go_ret2
  exact ⟨rfl, rfl⟩
set_option maxRecDepth 100000 in
theorem fits_s_any (n : Nat) (w : World) : Calls Tryz.prog 124 #[.int .i32 115, .int .i64 (n : Int)] w fun e w' => e = .returned (.bool (fitsK 115 n)) ∧ w' = w := by
  by_cases h1 : 0 < n
  · have e1 : (0 : Int) < n := by omega
    by_cases h2 : n ≤ 30
    · have e2 : (n : Int) ≤ 30 := by omega
      have hr : fitsK 115 n = true := by simp [fitsK]; try omega
      rw [hr]
      clear hr
      go_enter Tryz.func124, Tryz.ntmps124
      go_wp2_with (fail)
      go_ret
      exact ⟨rfl, rfl⟩
    · have e2 : ¬ (n : Int) ≤ 30 := by omega
      have hr : fitsK 115 n = false := by simp [fitsK]; try omega
      rw [hr]
      clear hr
      go_enter Tryz.func124, Tryz.ntmps124
      go_wp2_with (fail)
      go_ret
      exact ⟨rfl, rfl⟩
  · have e1 : ¬ (0 : Int) < n := by omega
    have hr : fitsK 115 n = false := by simp [fitsK]; try omega
    rw [hr]
    clear hr
    go_enter Tryz.func124, Tryz.ntmps124
    go_wp2_with (fail)
    go_ret
    exact ⟨rfl, rfl⟩
set_option maxRecDepth 100000 in
theorem fits_k_any (n : Nat) (w : World) : Calls Tryz.prog 124 #[.int .i32 107, .int .i64 (n : Int)] w fun e w' => e = .returned (.bool (fitsK 107 n)) ∧ w' = w := by
  by_cases h1 : 0 < n
  · have e1 : (0 : Int) < n := by omega
    by_cases h2 : n ≤ 40
    · have e2 : (n : Int) ≤ 40 := by omega
      have hr : fitsK 107 n = true := by simp [fitsK]; try omega
      rw [hr]
      clear hr
      go_enter Tryz.func124, Tryz.ntmps124
      go_wp2_with (fail)
      go_ret
      exact ⟨rfl, rfl⟩
    · have e2 : ¬ (n : Int) ≤ 40 := by omega
      have hr : fitsK 107 n = false := by simp [fitsK]; try omega
      rw [hr]
      clear hr
      go_enter Tryz.func124, Tryz.ntmps124
      go_wp2_with (fail)
      go_ret
      exact ⟨rfl, rfl⟩
  · have e1 : ¬ (0 : Int) < n := by omega
    have hr : fitsK 107 n = false := by simp [fitsK]; try omega
    rw [hr]
    clear hr
    go_enter Tryz.func124, Tryz.ntmps124
    go_wp2_with (fail)
    go_ret
    exact ⟨rfl, rfl⟩
set_option maxRecDepth 100000 in
theorem fits_c_any (n : Nat) (w : World) : Calls Tryz.prog 124 #[.int .i32 99, .int .i64 (n : Int)] w fun e w' => e = .returned (.bool (fitsK 99 n)) ∧ w' = w := by
  by_cases h1 : n ≤ 40
  · have e1 : (n : Int) ≤ 40 := by omega
    have hr : fitsK 99 n = true := by simp [fitsK]; try omega
    rw [hr]
    clear hr
    go_enter Tryz.func124, Tryz.ntmps124
    go_wp2_with (fail)
    go_ret
    exact ⟨rfl, rfl⟩
  · have e1 : ¬ (n : Int) ≤ 40 := by omega
    have hr : fitsK 99 n = false := by simp [fitsK]; try omega
    rw [hr]
    clear hr
    go_enter Tryz.func124, Tryz.ntmps124
    go_wp2_with (fail)
    go_ret
    exact ⟨rfl, rfl⟩
set_option maxRecDepth 100000 in
theorem fits_n_any (n : Nat) (w : World) : Calls Tryz.prog 124 #[.int .i32 110, .int .i64 (n : Int)] w fun e w' => e = .returned (.bool (fitsK 110 n)) ∧ w' = w := by
  by_cases h1 : 0 < n
  · have e1 : (0 : Int) < n := by omega
    have hr : fitsK 110 n = true := by simp [fitsK]; try omega
    rw [hr]
    clear hr
    go_enter Tryz.func124, Tryz.ntmps124
    go_wp2_with (fail)
    go_ret
    exact ⟨rfl, rfl⟩
  · have e1 : ¬ (0 : Int) < n := by omega
    have hr : fitsK 110 n = false := by simp [fitsK]; try omega
    rw [hr]
    clear hr
    go_enter Tryz.func124, Tryz.ntmps124
    go_wp2_with (fail)
    go_ret
    exact ⟨rfl, rfl⟩
theorem ownT_cell {w : World} {v : Value} {xs : List ByteArray} (h : OwnT w v xs) {i : Nat} {x : ByteArray} (hx : xs[i]? = some x) : ∃ g c, v = .slice (some ⟨g, 0, none⟩) xs.length c ∧ g < w.heap.size ∧ w.cell? ⟨g, i, none⟩ = some (.string x) := by
  have hi : i < xs.length := (List.getElem?_eq_some_iff.1 hx).1
  obtain ⟨A, c, rfl, hc, hm, hr, hA⟩ := ownS_form h
  obtain ⟨g, rfl⟩ := hA (by omega)
  refine ⟨g, c, rfl, ownS_lt h rfl, ?_⟩
  rw [World.ownsRow.cellAt h i (by omega), strsV_get _ _ hi, (List.getElem?_eq_some_iff.1 hx).2]
theorem ownN_cellv {w : World} {v : Value} {xs : List Nat} (h : OwnN w v xs) {i : Nat} {x : Nat} (hx : xs[i]? = some x) : ∃ g c, v = .slice (some ⟨g, 0, none⟩) xs.length c ∧ g < w.heap.size ∧ w.cell? ⟨g, i, none⟩ = some (.int .i64 (x : Int)) := by
  have hi : i < xs.length := (List.getElem?_eq_some_iff.1 hx).1
  obtain ⟨A, c, rfl, hc, hm, hr, hA⟩ := ownN_form h
  obtain ⟨g, rfl⟩ := hA (by omega)
  exact ⟨g, c, rfl, ownI_lt h rfl, (ownN_cell h rfl hx).1⟩
set_option maxRecDepth 100000 in
theorem made1_any {w : World} {vn vx : Value} (n0 : ByteArray) (hn : OwnT w vn [n0]) (hx : OwnN w vx []) :
    Calls Tryz.prog 157 #[.agg #[vn, vx]] w fun e w' => e = .returned (ifaceD (.found n0)) ∧ Below w.heap.size w w' := by
  obtain ⟨gn0, cn0, en0, ln0, hn0⟩ := ownT_cell hn (i := 0) (x := n0) rfl
  obtain ⟨Ax, cx, ex, _⟩ := ownN_form hx
  simp only [List.length_cons, List.length_nil] at en0 ex
  subst en0 ex
  clear hn hx
  go_enter Tryz.func157, Tryz.ntmps157
  go_wp2_with (first
    | (with_reducible show wpList _ _ _ (⟨_, .box _ _, _, _, _, _⟩ :: _) _ _
       refine wpList_box_cells rfl 174 _ rfl (.agg #[.slice (some ⟨gn0, 0, none⟩) 1 cn0, .slice Ax 0 cx]) #[.slice (some ⟨gn0, 0, none⟩) 1 cn0, .slice Ax 0 cx] rfl rfl ?_
       intro w1 g1 hG1 hgr1 hge1
       have hb1 := below_grown hgr1
       have d0 : w1.cell? ⟨g1, 0, none⟩ = some (.slice (some ⟨gn0, 0, none⟩) 1 cn0) := hG1.at_ 0 rfl
       have d1 : w1.cell? ⟨g1, 1, none⟩ = some (.slice Ax 0 cx) := hG1.at_ 1 rfl
       have en0 := (hb1.cell (p := ⟨gn0, 0, none⟩) ln0).trans hn0
       clear hG1 hgr1 hge1))
  go_ret
  exact ⟨rfl, hb1⟩
set_option maxRecDepth 100000 in
theorem made2_any {w : World} {vn vx : Value} (n0 : ByteArray) (x0 : Nat) (hn : OwnT w vn [n0]) (hx : OwnN w vx [x0]) :
    Calls Tryz.prog 158 #[.agg #[vn, vx]] w fun e w' => e = .returned (ifaceD (.size n0 x0)) ∧ Below w.heap.size w w' := by
  obtain ⟨gn0, cn0, en0, ln0, hn0⟩ := ownT_cell hn (i := 0) (x := n0) rfl
  obtain ⟨gx0, cx0, ex0, lx0, hx0⟩ := ownN_cellv hx (i := 0) (x := x0) rfl
  simp only [List.length_cons, List.length_nil] at en0 ex0
  subst en0 ex0
  clear hn hx
  go_enter Tryz.func158, Tryz.ntmps158
  go_wp2_with (first
    | (with_reducible show wpList _ _ _ (⟨_, .box _ _, _, _, _, _⟩ :: _) _ _
       refine wpList_box_cells rfl 174 _ rfl (.agg #[.slice (some ⟨gn0, 0, none⟩) 1 cn0, .slice (some ⟨gx0, 0, none⟩) 1 cx0]) #[.slice (some ⟨gn0, 0, none⟩) 1 cn0, .slice (some ⟨gx0, 0, none⟩) 1 cx0] rfl rfl ?_
       intro w1 g1 hG1 hgr1 hge1
       have hb1 := below_grown hgr1
       have d0 : w1.cell? ⟨g1, 0, none⟩ = some (.slice (some ⟨gn0, 0, none⟩) 1 cn0) := hG1.at_ 0 rfl
       have d1 : w1.cell? ⟨g1, 1, none⟩ = some (.slice (some ⟨gx0, 0, none⟩) 1 cx0) := hG1.at_ 1 rfl
       have en0 := (hb1.cell (p := ⟨gn0, 0, none⟩) ln0).trans hn0
       have ex0 := (hb1.cell (p := ⟨gx0, 0, none⟩) lx0).trans hx0
       clear hG1 hgr1 hge1))
  go_quiet (fail)
  go_wp2_with (fail)
  go_ret
  exact ⟨rfl, below_drewN hb1 _⟩
set_option maxRecDepth 100000 in
theorem made3_any {w : World} {vn vx : Value} (n0 : ByteArray) (x0 x1 : Nat) (hn : OwnT w vn [n0]) (hx : OwnN w vx [x0, x1]) :
    Calls Tryz.prog 159 #[.agg #[vn, vx]] w fun e w' => e = .returned (ifaceD (.buy n0 x0 x1)) ∧ Below w.heap.size w w' := by
  obtain ⟨gn0, cn0, en0, ln0, hn0⟩ := ownT_cell hn (i := 0) (x := n0) rfl
  obtain ⟨gx0, cx0, ex0, lx0, hx0⟩ := ownN_cellv hx (i := 0) (x := x0) rfl
  obtain ⟨gx1, cx1, ex1, lx1, hx1⟩ := ownN_cellv hx (i := 1) (x := x1) rfl
  obtain rfl : gx0 = gx1 := by rw [ex0] at ex1; injection ex1 with h; injection h with h; injection h
  simp only [List.length_cons, List.length_nil] at en0 ex0
  subst en0 ex0
  clear ex1 hn hx
  go_enter Tryz.func159, Tryz.ntmps159
  go_wp2_with (first
    | (with_reducible show wpList _ _ _ (⟨_, .box _ _, _, _, _, _⟩ :: _) _ _
       refine wpList_box_cells rfl 174 _ rfl (.agg #[.slice (some ⟨gn0, 0, none⟩) 1 cn0, .slice (some ⟨gx0, 0, none⟩) 2 cx0]) #[.slice (some ⟨gn0, 0, none⟩) 1 cn0, .slice (some ⟨gx0, 0, none⟩) 2 cx0] rfl rfl ?_
       intro w1 g1 hG1 hgr1 hge1
       have hb1 := below_grown hgr1
       have d0 : w1.cell? ⟨g1, 0, none⟩ = some (.slice (some ⟨gn0, 0, none⟩) 1 cn0) := hG1.at_ 0 rfl
       have d1 : w1.cell? ⟨g1, 1, none⟩ = some (.slice (some ⟨gx0, 0, none⟩) 2 cx0) := hG1.at_ 1 rfl
       have en0 := (hb1.cell (p := ⟨gn0, 0, none⟩) ln0).trans hn0
       have ex0 := (hb1.cell (p := ⟨gx0, 0, none⟩) lx0).trans hx0
       have ex1 := (hb1.cell (p := ⟨gx0, 1, none⟩) lx0).trans hx1
       clear hG1 hgr1 hge1))
  go_quiet (fail)
  go_wp2_with (fail)
  go_ret
  exact ⟨rfl, below_drewN hb1 _⟩
set_option maxRecDepth 100000 in
theorem made4_any {w : World} {vn vx : Value} (n0 n1 : ByteArray) (x0 : Nat) (hn : OwnT w vn [n0, n1]) (hx : OwnN w vx [x0]) :
    Calls Tryz.prog 160 #[.agg #[vn, vx]] w fun e w' => e = .returned (ifaceD (.order n0 n1 x0)) ∧ Below w.heap.size w w' := by
  obtain ⟨gn0, cn0, en0, ln0, hn0⟩ := ownT_cell hn (i := 0) (x := n0) rfl
  obtain ⟨gn1, cn1, en1, ln1, hn1⟩ := ownT_cell hn (i := 1) (x := n1) rfl
  obtain ⟨gx0, cx0, ex0, lx0, hx0⟩ := ownN_cellv hx (i := 0) (x := x0) rfl
  obtain rfl : gn0 = gn1 := by rw [en0] at en1; injection en1 with h; injection h with h; injection h
  simp only [List.length_cons, List.length_nil] at en0 ex0
  subst en0 ex0
  clear en1 hn hx
  go_enter Tryz.func160, Tryz.ntmps160
  go_wp2_with (first
    | (with_reducible show wpList _ _ _ (⟨_, .box _ _, _, _, _, _⟩ :: _) _ _
       refine wpList_box_cells rfl 174 _ rfl (.agg #[.slice (some ⟨gn0, 0, none⟩) 2 cn0, .slice (some ⟨gx0, 0, none⟩) 1 cx0]) #[.slice (some ⟨gn0, 0, none⟩) 2 cn0, .slice (some ⟨gx0, 0, none⟩) 1 cx0] rfl rfl ?_
       intro w1 g1 hG1 hgr1 hge1
       have hb1 := below_grown hgr1
       have d0 : w1.cell? ⟨g1, 0, none⟩ = some (.slice (some ⟨gn0, 0, none⟩) 2 cn0) := hG1.at_ 0 rfl
       have d1 : w1.cell? ⟨g1, 1, none⟩ = some (.slice (some ⟨gx0, 0, none⟩) 1 cx0) := hG1.at_ 1 rfl
       have en0 := (hb1.cell (p := ⟨gn0, 0, none⟩) ln0).trans hn0
       have en1 := (hb1.cell (p := ⟨gn0, 1, none⟩) ln0).trans hn1
       have ex0 := (hb1.cell (p := ⟨gx0, 0, none⟩) lx0).trans hx0
       clear hG1 hgr1 hge1))
  go_quiet (fail)
  go_wp2_with (fail)
  go_ret
  exact ⟨rfl, below_drewN hb1 _⟩
set_option maxRecDepth 100000 in
theorem made5_any {w : World} {vn vx : Value} (n0 : ByteArray) (hn : OwnT w vn [n0]) (hx : OwnN w vx []) :
    Calls Tryz.prog 161 #[.agg #[vn, vx]] w fun e w' => e = .returned (ifaceD (.back n0)) ∧ Below w.heap.size w w' := by
  obtain ⟨gn0, cn0, en0, ln0, hn0⟩ := ownT_cell hn (i := 0) (x := n0) rfl
  obtain ⟨Ax, cx, ex, _⟩ := ownN_form hx
  simp only [List.length_cons, List.length_nil] at en0 ex
  subst en0 ex
  clear hn hx
  go_enter Tryz.func161, Tryz.ntmps161
  go_wp2_with (first
    | (with_reducible show wpList _ _ _ (⟨_, .box _ _, _, _, _, _⟩ :: _) _ _
       refine wpList_box_cells rfl 174 _ rfl (.agg #[.slice (some ⟨gn0, 0, none⟩) 1 cn0, .slice Ax 0 cx]) #[.slice (some ⟨gn0, 0, none⟩) 1 cn0, .slice Ax 0 cx] rfl rfl ?_
       intro w1 g1 hG1 hgr1 hge1
       have hb1 := below_grown hgr1
       have d0 : w1.cell? ⟨g1, 0, none⟩ = some (.slice (some ⟨gn0, 0, none⟩) 1 cn0) := hG1.at_ 0 rfl
       have d1 : w1.cell? ⟨g1, 1, none⟩ = some (.slice Ax 0 cx) := hG1.at_ 1 rfl
       have en0 := (hb1.cell (p := ⟨gn0, 0, none⟩) ln0).trans hn0
       clear hG1 hgr1 hge1))
  go_ret
  exact ⟨rfl, hb1⟩
set_option maxRecDepth 100000 in
theorem made6_any {w : World} {vn vx : Value} (n0 : ByteArray) (x0 : Nat) (hn : OwnT w vn [n0]) (hx : OwnN w vx [x0]) :
    Calls Tryz.prog 162 #[.agg #[vn, vx]] w fun e w' => e = .returned (ifaceD (.moth n0 x0)) ∧ Below w.heap.size w w' := by
  obtain ⟨gn0, cn0, en0, ln0, hn0⟩ := ownT_cell hn (i := 0) (x := n0) rfl
  obtain ⟨gx0, cx0, ex0, lx0, hx0⟩ := ownN_cellv hx (i := 0) (x := x0) rfl
  simp only [List.length_cons, List.length_nil] at en0 ex0
  subst en0 ex0
  clear hn hx
  go_enter Tryz.func162, Tryz.ntmps162
  go_wp2_with (first
    | (with_reducible show wpList _ _ _ (⟨_, .box _ _, _, _, _, _⟩ :: _) _ _
       refine wpList_box_cells rfl 174 _ rfl (.agg #[.slice (some ⟨gn0, 0, none⟩) 1 cn0, .slice (some ⟨gx0, 0, none⟩) 1 cx0]) #[.slice (some ⟨gn0, 0, none⟩) 1 cn0, .slice (some ⟨gx0, 0, none⟩) 1 cx0] rfl rfl ?_
       intro w1 g1 hG1 hgr1 hge1
       have hb1 := below_grown hgr1
       have d0 : w1.cell? ⟨g1, 0, none⟩ = some (.slice (some ⟨gn0, 0, none⟩) 1 cn0) := hG1.at_ 0 rfl
       have d1 : w1.cell? ⟨g1, 1, none⟩ = some (.slice (some ⟨gx0, 0, none⟩) 1 cx0) := hG1.at_ 1 rfl
       have en0 := (hb1.cell (p := ⟨gn0, 0, none⟩) ln0).trans hn0
       have ex0 := (hb1.cell (p := ⟨gx0, 0, none⟩) lx0).trans hx0
       clear hG1 hgr1 hge1))
  go_quiet (fail)
  go_wp2_with (fail)
  go_ret
  exact ⟨rfl, below_drewN hb1 _⟩
set_option maxRecDepth 100000 in
theorem made7_any {w : World} {vn vx : Value} (n0 : ByteArray) (x0 x1 : Nat) (hn : OwnT w vn [n0]) (hx : OwnN w vx [x0, x1]) :
    Calls Tryz.prog 163 #[.agg #[vn, vx]] w fun e w' => e = .returned (ifaceD (.count n0 x0 x1)) ∧ Below w.heap.size w w' := by
  obtain ⟨gn0, cn0, en0, ln0, hn0⟩ := ownT_cell hn (i := 0) (x := n0) rfl
  obtain ⟨gx0, cx0, ex0, lx0, hx0⟩ := ownN_cellv hx (i := 0) (x := x0) rfl
  obtain ⟨gx1, cx1, ex1, lx1, hx1⟩ := ownN_cellv hx (i := 1) (x := x1) rfl
  obtain rfl : gx0 = gx1 := by rw [ex0] at ex1; injection ex1 with h; injection h with h; injection h
  simp only [List.length_cons, List.length_nil] at en0 ex0
  subst en0 ex0
  clear ex1 hn hx
  go_enter Tryz.func163, Tryz.ntmps163
  go_wp2_with (first
    | (with_reducible show wpList _ _ _ (⟨_, .box _ _, _, _, _, _⟩ :: _) _ _
       refine wpList_box_cells rfl 174 _ rfl (.agg #[.slice (some ⟨gn0, 0, none⟩) 1 cn0, .slice (some ⟨gx0, 0, none⟩) 2 cx0]) #[.slice (some ⟨gn0, 0, none⟩) 1 cn0, .slice (some ⟨gx0, 0, none⟩) 2 cx0] rfl rfl ?_
       intro w1 g1 hG1 hgr1 hge1
       have hb1 := below_grown hgr1
       have d0 : w1.cell? ⟨g1, 0, none⟩ = some (.slice (some ⟨gn0, 0, none⟩) 1 cn0) := hG1.at_ 0 rfl
       have d1 : w1.cell? ⟨g1, 1, none⟩ = some (.slice (some ⟨gx0, 0, none⟩) 2 cx0) := hG1.at_ 1 rfl
       have en0 := (hb1.cell (p := ⟨gn0, 0, none⟩) ln0).trans hn0
       have ex0 := (hb1.cell (p := ⟨gx0, 0, none⟩) lx0).trans hx0
       have ex1 := (hb1.cell (p := ⟨gx0, 1, none⟩) lx0).trans hx1
       clear hG1 hgr1 hge1))
  go_quiet (fail)
  go_wp2_with (fail)
  go_ret
  exact ⟨rfl, below_drewN hb1 _⟩
set_option maxRecDepth 100000 in
theorem made8_any {w : World} {vn vx : Value} (n0 : ByteArray) (hn : OwnT w vn [n0]) (hx : OwnN w vx []) :
    Calls Tryz.prog 164 #[.agg #[vn, vx]] w fun e w' => e = .returned (ifaceD (.lock n0 true)) ∧ Below w.heap.size w w' := by
  obtain ⟨gn0, cn0, en0, ln0, hn0⟩ := ownT_cell hn (i := 0) (x := n0) rfl
  obtain ⟨Ax, cx, ex, _⟩ := ownN_form hx
  simp only [List.length_cons, List.length_nil] at en0 ex
  subst en0 ex
  clear hn hx
  go_enter Tryz.func164, Tryz.ntmps164
  go_wp2_with (first
    | (with_reducible show wpList _ _ _ (⟨_, .box _ _, _, _, _, _⟩ :: _) _ _
       refine wpList_box_cells rfl 174 _ rfl (.agg #[.slice (some ⟨gn0, 0, none⟩) 1 cn0, .slice Ax 0 cx]) #[.slice (some ⟨gn0, 0, none⟩) 1 cn0, .slice Ax 0 cx] rfl rfl ?_
       intro w1 g1 hG1 hgr1 hge1
       have hb1 := below_grown hgr1
       have d0 : w1.cell? ⟨g1, 0, none⟩ = some (.slice (some ⟨gn0, 0, none⟩) 1 cn0) := hG1.at_ 0 rfl
       have d1 : w1.cell? ⟨g1, 1, none⟩ = some (.slice Ax 0 cx) := hG1.at_ 1 rfl
       have en0 := (hb1.cell (p := ⟨gn0, 0, none⟩) ln0).trans hn0
       clear hG1 hgr1 hge1))
  go_ret
  exact ⟨rfl, hb1⟩
set_option maxRecDepth 100000 in
theorem made9_any {w : World} {vn vx : Value} (n0 : ByteArray) (hn : OwnT w vn [n0]) (hx : OwnN w vx []) :
    Calls Tryz.prog 165 #[.agg #[vn, vx]] w fun e w' => e = .returned (ifaceD (.lock n0 false)) ∧ Below w.heap.size w w' := by
  obtain ⟨gn0, cn0, en0, ln0, hn0⟩ := ownT_cell hn (i := 0) (x := n0) rfl
  obtain ⟨Ax, cx, ex, _⟩ := ownN_form hx
  simp only [List.length_cons, List.length_nil] at en0 ex
  subst en0 ex
  clear hn hx
  go_enter Tryz.func165, Tryz.ntmps165
  go_wp2_with (first
    | (with_reducible show wpList _ _ _ (⟨_, .box _ _, _, _, _, _⟩ :: _) _ _
       refine wpList_box_cells rfl 174 _ rfl (.agg #[.slice (some ⟨gn0, 0, none⟩) 1 cn0, .slice Ax 0 cx]) #[.slice (some ⟨gn0, 0, none⟩) 1 cn0, .slice Ax 0 cx] rfl rfl ?_
       intro w1 g1 hG1 hgr1 hge1
       have hb1 := below_grown hgr1
       have d0 : w1.cell? ⟨g1, 0, none⟩ = some (.slice (some ⟨gn0, 0, none⟩) 1 cn0) := hG1.at_ 0 rfl
       have d1 : w1.cell? ⟨g1, 1, none⟩ = some (.slice Ax 0 cx) := hG1.at_ 1 rfl
       have en0 := (hb1.cell (p := ⟨gn0, 0, none⟩) ln0).trans hn0
       clear hG1 hgr1 hge1))
  go_ret
  exact ⟨rfl, hb1⟩
end Dr
end Go.Proofs.YtbgakdpbglpfaaaGreatDoor
-- the text DrLc
namespace Go.Proofs.YtbgakdpbglpfaaaGreatDoor
open Go.RowKit
namespace Dr
set_option linter.unusedSimpArgs false
theorem splitK_one (c : UInt8) : ∀ s : List UInt8, Lib.splitK [c] 0 (Lib.count s [c]) s = splitL c s := by
  intro s
  induction s with
  | nil =>
    rw [Lib.count_miss (by simp [Lib.index])]
    rfl
  | cons b l ih =>
    by_cases h : b = c
    · subst h
      have hix : Lib.index (b :: l) [b] = ((0 : Nat) : Int) := by rw [Lib.index]; simp [List.isPrefixOf]
      rw [Lib.count_cons_eq, Nat.add_comm, Lib.splitK, hix, if_neg (by decide)]
      show (b :: l).take 0 :: Lib.splitK [b] 0 (Lib.count l [b]) ((b :: l).drop 1) = splitL b (b :: l)
      rw [List.take_zero, List.drop_one, List.tail_cons, ih, splitL, if_pos (by simp)]
    · have hp : ([c] : List UInt8).isPrefixOf (b :: l) = false := by simp [List.isPrefixOf, Ne.symm h]
      have hix : Lib.index (b :: l) [c] = if Lib.index l [c] == -1 then -1 else Lib.index l [c] + 1 := by rw [Lib.index, hp]; simp
      rw [Lib.count_cons_ne b c l h, splitL, if_neg (by simpa using h), ← ih]
      by_cases hm : Lib.index l [c] = -1
      · rw [Lib.count_miss hm]
        rfl
      · have hge := Lib.index_ge l [c]
        obtain ⟨j, hj⟩ : ∃ j : Nat, Lib.index l [c] = j := ⟨(Lib.index l [c]).toNat, by omega⟩
        have hix' : Lib.index (b :: l) [c] = ((j + 1 : Nat) : Int) := by rw [hix, if_neg (fun e => hm (beq_iff_eq.1 e)), hj]; omega
        have n1 : ¬ (((j + 1 : Nat) : Int) == -1) = true := fun e => by have := beq_iff_eq.1 e; omega
        have n2 : ¬ ((j : Int) == -1) = true := fun e => by have := beq_iff_eq.1 e; omega
        rw [Lib.count_hit (by simp) hj, Nat.add_comm 1, Lib.splitK, Lib.splitK, hix', hj, if_neg n1, if_neg n2]
        simp
/-- the words of a line -/
def wordsB (s : ByteArray) : List ByteArray := Lib.splitB ⟨#[32]⟩ 0 (Lib.countB s ⟨#[32]⟩) s
theorem wordsB_byts (s : ByteArray) : (wordsB s).map byts = splitL 32 (byts s) := by
  unfold wordsB
  rw [show (byts : ByteArray → List UInt8) = (·.data.toList) from rfl, Lib.splitB_data]
  exact splitK_one 32 _
theorem wordsB_len (s : ByteArray) : (wordsB s).length = Lib.countB s ⟨#[32]⟩ + 1 := Lib.splitB_all ⟨#[32]⟩ (by decide) 0 _ s rfl
theorem wordsB_le (s : ByteArray) : (wordsB s).length ≤ s.size + 1 := by
  rw [wordsB_len]
  have := Lib.countB_le ⟨#[32]⟩ (by decide) s.size s (Nat.le_refl _)
  omega
def readR (r : Int × Deed) : Value := if r.1 = 0 then .tuple #[ifaceD r.2, .int .i64 0] else .tuple #[.nilIface, .int .i64 r.1]
def kindFn : Nat → FuncId
  | 1 => 157
  | 2 => 158
  | 3 => 159
  | 4 => 160
  | 5 => 161
  | 6 => 162
  | 7 => 163
  | 8 => 164
  | _ => 165
theorem kindF_fn {k : Nat} (h0 : k ≠ 0) (h9 : k < 10) : kindF k = .func (.func (kindFn k)) #[] #[] := by
  match k, h0, h9 with
  | 1, _, _ => rfl
  | 2, _, _ => rfl
  | 3, _, _ => rfl
  | 4, _, _ => rfl
  | 5, _, _ => rfl
  | 6, _, _ => rfl
  | 7, _, _ => rfl
  | 8, _, _ => rfl
  | 9, _, _ => rfl
theorem fits_any (c : UInt8) (hc : c = 115 ∨ c = 107 ∨ c = 99 ∨ c = 110) (n : Nat) (w : World) : Calls Tryz.prog 124 #[.int .i32 (c.toNat : Int), .int .i64 (n : Int)] w fun e w' => e = .returned (.bool (fitsK c n)) ∧ w' = w := by
  rcases hc with rfl | rfl | rfl | rfl
  · exact fits_s_any n w
  · exact fits_k_any n w
  · exact fits_c_any n w
  · exact fits_n_any n w
/-- what the words behind the first one give, if they are all right -/
theorem args_form {k : Nat} (h0 : k ≠ 0) (h9 : k < 10) {ws : List (List UInt8)} (hl : ws.length = (formP k).length) {ns : List (List UInt8)} {xs : List Nat} (h : argsP (formP k) ws [] [] 0 = (0, ns, xs)) :
    ns.length = (formP k).countP (· == 87) ∧ xs.length = (formP k).countP (· != 87) := by
  have h1 : (argsP (formP k) ws [] [] 0).1 = 0 := by rw [h]
  match k, h0, h9 with
  | 1, _, _ =>
    obtain ⟨a, rfl⟩ := len1 hl
    simp only [formP] at h h1 ⊢
    rw [args_w h1, args_end] at h
    injection h with _ h; injection h with h2 h3; subst h2 h3; exact ⟨rfl, rfl⟩
  | 2, _, _ =>
    obtain ⟨a, b, rfl⟩ := len2 hl
    simp only [formP] at h h1 ⊢
    have e0 := args_w h1
    rw [e0] at h h1
    obtain ⟨n, hn, e⟩ := args_n (by decide) h1
    rw [e, args_end] at h
    injection h with _ h; injection h with h2 h3; subst h2 h3; exact ⟨rfl, rfl⟩
  | 3, _, _ =>
    obtain ⟨a, b, c, rfl⟩ := len3 hl
    simp only [formP] at h h1 ⊢
    have e0 := args_w h1
    rw [e0] at h h1
    obtain ⟨n, hn, e⟩ := args_n (by decide) h1
    rw [e] at h h1
    obtain ⟨m, hm, e2⟩ := args_n (by decide) h1
    rw [e2, args_end] at h
    injection h with _ h; injection h with h2 h3; subst h2 h3; exact ⟨rfl, rfl⟩
  | 4, _, _ =>
    obtain ⟨a, b, c, rfl⟩ := len3 hl
    simp only [formP] at h h1 ⊢
    have e0 := args_w h1
    rw [e0] at h h1
    have e1 := args_w h1
    rw [e1] at h h1
    obtain ⟨n, hn, e⟩ := args_n (by decide) h1
    rw [e, args_end] at h
    injection h with _ h; injection h with h2 h3; subst h2 h3; exact ⟨rfl, rfl⟩
  | 5, _, _ =>
    obtain ⟨a, rfl⟩ := len1 hl
    simp only [formP] at h h1 ⊢
    rw [args_w h1, args_end] at h
    injection h with _ h; injection h with h2 h3; subst h2 h3; exact ⟨rfl, rfl⟩
  | 6, _, _ =>
    obtain ⟨a, b, rfl⟩ := len2 hl
    simp only [formP] at h h1 ⊢
    have e0 := args_w h1
    rw [e0] at h h1
    obtain ⟨n, hn, e⟩ := args_n (by decide) h1
    rw [e, args_end] at h
    injection h with _ h; injection h with h2 h3; subst h2 h3; exact ⟨rfl, rfl⟩
  | 7, _, _ =>
    obtain ⟨a, b, c, rfl⟩ := len3 hl
    simp only [formP] at h h1 ⊢
    have e0 := args_w h1
    rw [e0] at h h1
    obtain ⟨n, hn, e⟩ := args_n (by decide) h1
    rw [e] at h h1
    obtain ⟨m, hm, e2⟩ := args_n (by decide) h1
    rw [e2, args_end] at h
    injection h with _ h; injection h with h2 h3; subst h2 h3; exact ⟨rfl, rfl⟩
  | 8, _, _ =>
    obtain ⟨a, rfl⟩ := len1 hl
    simp only [formP] at h h1 ⊢
    rw [args_w h1, args_end] at h
    injection h with _ h; injection h with h2 h3; subst h2 h3; exact ⟨rfl, rfl⟩
  | 9, _, _ =>
    obtain ⟨a, rfl⟩ := len1 hl
    simp only [formP] at h h1 ⊢
    rw [args_w h1, args_end] at h
    injection h with _ h; injection h with h2 h3; subst h2 h3; exact ⟨rfl, rfl⟩
theorem made_any {w : World} {vn vx : Value} {k : Nat} (h0 : k ≠ 0) (h9 : k < 10) {ns : List (List UInt8)} {xs : List Nat} (l1 : ns.length = (formP k).countP (· == 87)) (l2 : xs.length = (formP k).countP (· != 87)) (hn : OwnT w vn (ns.map bstr)) (hx : OwnN w vx xs) :
    Calls Tryz.prog (kindFn k) #[.agg #[vn, vx]] w fun e w' => e = .returned (ifaceD (madeP k ns xs)) ∧ Below w.heap.size w w' := by
  match k, h0, h9 with
  | 1, _, _ =>
    obtain ⟨a, rfl⟩ := len1 (show ns.length = 1 from l1)
    obtain rfl := List.eq_nil_of_length_eq_zero (show xs.length = 0 from l2)
    exact made1_any (bstr a) hn hx
  | 2, _, _ =>
    obtain ⟨a, rfl⟩ := len1 (show ns.length = 1 from l1)
    obtain ⟨x, rfl⟩ := len1 (show xs.length = 1 from l2)
    exact made2_any (bstr a) x hn hx
  | 3, _, _ =>
    obtain ⟨a, rfl⟩ := len1 (show ns.length = 1 from l1)
    obtain ⟨x, y, rfl⟩ := len2 (show xs.length = 2 from l2)
    exact made3_any (bstr a) x y hn hx
  | 4, _, _ =>
    obtain ⟨a, b, rfl⟩ := len2 (show ns.length = 2 from l1)
    obtain ⟨x, rfl⟩ := len1 (show xs.length = 1 from l2)
    exact made4_any (bstr a) (bstr b) x hn hx
  | 5, _, _ =>
    obtain ⟨a, rfl⟩ := len1 (show ns.length = 1 from l1)
    obtain rfl := List.eq_nil_of_length_eq_zero (show xs.length = 0 from l2)
    exact made5_any (bstr a) hn hx
  | 6, _, _ =>
    obtain ⟨a, rfl⟩ := len1 (show ns.length = 1 from l1)
    obtain ⟨x, rfl⟩ := len1 (show xs.length = 1 from l2)
    exact made6_any (bstr a) x hn hx
  | 7, _, _ =>
    obtain ⟨a, rfl⟩ := len1 (show ns.length = 1 from l1)
    obtain ⟨x, y, rfl⟩ := len2 (show xs.length = 2 from l2)
    exact made7_any (bstr a) x y hn hx
  | 8, _, _ =>
    obtain ⟨a, rfl⟩ := len1 (show ns.length = 1 from l1)
    obtain rfl := List.eq_nil_of_length_eq_zero (show xs.length = 0 from l2)
    exact made8_any (bstr a) hn hx
  | 9, _, _ =>
    obtain ⟨a, rfl⟩ := len1 (show ns.length = 1 from l1)
    obtain rfl := List.eq_nil_of_length_eq_zero (show xs.length = 0 from l2)
    exact made9_any (bstr a) hn hx
theorem form_let {k : Nat} {c : UInt8} (h9 : k < 10) (h : c ∈ formP k) : c = 87 ∨ c = 115 ∨ c = 107 ∨ c = 99 ∨ c = 110 := by
  have key : ∀ k, k < 10 → ∀ c ∈ formP k, c = 87 ∨ c = 115 ∨ c = 107 ∨ c = 99 ∨ c = 110 := by decide
  exact key k h9 c h
theorem form_len {k : Nat} (h9 : k < 10) : (formP k).length ≤ 3 ∧ (k ≠ 0 → 1 ≤ (formP k).length) := by
  have key : ∀ k, k < 10 → (formP k).length ≤ 3 ∧ (k ≠ 0 → 1 ≤ (formP k).length) := by decide
  exact key k h9
/-- what lies in memory while the words behind the first one are looked at -/
structure RdS (w4 wr : World) (gp it : Nat) (fm : ByteArray) (j : Nat) (vn vx : Value) (ns : List (List UInt8)) (xs : List Nat) : Prop where
  iter : wr.heap[it]? = some (.stringIter fm j)
  bp : Blk wr gp 174 #[vn, vx]
  on : OwnS wr w4.heap.size vn (ns.map bstr)
  ox : OwnI wr w4.heap.size vx (Dr.natI xs)
  far : FarB w4 wr gp it
  os : wr.os = w4.os ∧ wr.tape = w4.tape ∧ wr.output = w4.output ∧ w4.heap.size ≤ wr.heap.size
  lt : gp < w4.heap.size ∧ it < w4.heap.size
section
variable {w4 wr w' : World} {gp it j : Nat} {fm : ByteArray} {vn vx : Value} {ns : List (List UInt8)} {xs : List Nat}
theorem RdS.ne_ (h : RdS w4 wr gp it fm j vn vx ns xs) : gp ≠ it := by
  rintro rfl
  have h1 := h.iter
  have h2 : wr.heap[gp]? = _ := h.bp
  rw [h1] at h2
  cases h2
theorem RdS.next (h : RdS w4 wr gp it fm j vn vx ns xs) (j' : Nat) : RdS w4 (wr.iterAt it fm j') gp it fm j' vn vx ns xs where
  iter := Lib.iterAt_heap wr it fm j j' h.iter
  bp := (Lib.iterAt_other wr it gp fm j' h.ne_).trans h.bp
  on := h.on.keep fun g hg => Lib.iterAt_other wr it g fm j' (by have := h.on.ge hg; have := h.lt.2; omega)
  ox := h.ox.keep fun g hg => Lib.iterAt_other wr it g fm j' (by have := h.ox.ge hg; have := h.lt.2; omega)
  far := fun k h1 h2 h3 => (Lib.iterAt_other wr it k fm j' h3).trans (h.far k h1 h2 h3)
  os := ⟨h.os.1, h.os.2.1, h.os.2.2.1, by rw [Lib.iterAt_size]; exact h.os.2.2.2⟩
  lt := h.lt
theorem RdS.callee (h : RdS w4 wr gp it fm j vn vx ns xs) (hb : Below wr.heap.size wr w') : RdS w4 w' gp it fm j vn vx ns xs where
  iter := (hb.block it (by have := h.lt.2; have := h.os.2.2.2; omega)).trans h.iter
  bp := h.bp.callee hb
  on := h.on.callee hb
  ox := h.ox.callee hb
  far := fun k h1 h2 h3 => (hb.block k (by have := h.os.2.2.2; omega)).trans (h.far k h1 h2 h3)
  os := ⟨hb.os.trans h.os.1, hb.tape.trans h.os.2.1, hb.output.trans h.os.2.2.1, Nat.le_trans h.os.2.2.2 hb.size⟩
  lt := h.lt
theorem own_apart {w : World} {b : Nat} {v u : Value} {xs : List ByteArray} {ys : List Int} (h1 : OwnS w b v xs) (h2 : OwnI w b u ys) {g : Nat} (hg : v.ownBlock = some g) : u.ownBlock ≠ some g := by
  intro hu
  rcases h1.2 with ⟨rfl, _⟩ | ⟨g1, c1, cur1, rfl, _, e1, _⟩
  · cases hg
  · rcases h2.2 with ⟨rfl, _⟩ | ⟨g2, c2, cur2, rfl, _, e2, _⟩
    · cases hu
    · have a1 : g1 = g := by injection hg
      have a2 : g2 = g := by injection hu
      rw [a1] at e1
      rw [a2, e1] at e2
      injection e2 with e2
      injection e2 with _ e2
      exact absurd e2 (by decide)
theorem RdS.pushN (h : RdS w4 wr gp it fm j vn vx ns xs) {v' : Value} {l : List UInt8} (ho : OwnS w' w4.heap.size v' ((ns ++ [l]).map bstr)) (hg : wr.grownBy w' vn.ownBlock) : RdS w4 (w'.setCell ⟨gp, 0, none⟩ v') gp it fm j v' vx (ns ++ [l]) xs := by
  have hl1 := h.lt.1
  have hl2 := h.lt.2
  have hsz := h.os.2.2.2
  have st : ∀ k, k < wr.heap.size → vn.ownBlock ≠ some k → w'.heap[k]? = wr.heap[k]? := fun k h1 h2 => hg.block k h1 (fun e => h2 e.symm)
  have nv : ∀ k, k < w4.heap.size → vn.ownBlock ≠ some k := fun k hk e => by have := h.on.ge e; omega
  have s2 : ∀ k, k ≠ gp → (w'.setCell ⟨gp, 0, none⟩ v').heap[k]? = w'.heap[k]? := fun k hk => Below.heap_setCell w' ⟨gp, 0, none⟩ v' k hk
  exact
    { iter := (s2 it (Ne.symm h.ne_)).trans ((st it (by omega) (nv it hl2)).trans h.iter)
      bp := Blk.set_ (show Blk w' gp _ #[vn, vx] from (st gp (by omega) (nv gp hl1)).trans h.bp) 0 v'
      on := ho.keep fun g hg => s2 g (by have := ho.ge hg; omega)
      ox := h.ox.keep fun g hgx => (s2 g (by have := h.ox.ge hgx; omega)).trans (st g (h.ox.lt hgx) (fun e => own_apart h.on h.ox e hgx))
      far := fun k h1 h2 h3 => (s2 k h2).trans ((st k (by omega) (nv k h1)).trans (h.far k h1 h2 h3))
      os := ⟨hg.os.trans h.os.1, hg.tape.trans h.os.2.1, hg.output.trans h.os.2.2.1, by have := hg.size; simp; omega⟩
      lt := h.lt }
theorem RdS.pushX (h : RdS w4 wr gp it fm j vn vx ns xs) {v' : Value} {x : Nat} (ho : OwnI w' w4.heap.size v' (Dr.natI (xs ++ [x]))) (hg : wr.grownBy w' vx.ownBlock) : RdS w4 (w'.setCell ⟨gp, 1, none⟩ v') gp it fm j vn v' ns (xs ++ [x]) := by
  have hl1 := h.lt.1
  have hl2 := h.lt.2
  have hsz := h.os.2.2.2
  have st : ∀ k, k < wr.heap.size → vx.ownBlock ≠ some k → w'.heap[k]? = wr.heap[k]? := fun k h1 h2 => hg.block k h1 (fun e => h2 e.symm)
  have nv : ∀ k, k < w4.heap.size → vx.ownBlock ≠ some k := fun k hk e => by have := h.ox.ge e; omega
  have s2 : ∀ k, k ≠ gp → (w'.setCell ⟨gp, 1, none⟩ v').heap[k]? = w'.heap[k]? := fun k hk => Below.heap_setCell w' ⟨gp, 1, none⟩ v' k hk
  exact
    { iter := (s2 it (Ne.symm h.ne_)).trans ((st it (by omega) (nv it hl2)).trans h.iter)
      bp := Blk.set_ (show Blk w' gp _ #[vn, vx] from (st gp (by omega) (nv gp hl1)).trans h.bp) 1 v'
      on := h.on.keep fun g hgn => (s2 g (by have := h.on.ge hgn; omega)).trans (st g (h.on.lt hgn) (fun e => own_apart h.on h.ox hgn e))
      ox := ho.keep fun g hg => s2 g (by have := ho.ge hg; omega)
      far := fun k h1 h2 h3 => (s2 k h2).trans ((st k (by omega) (nv k h1)).trans (h.far k h1 h2 h3))
      os := ⟨hg.os.trans h.os.1, hg.tape.trans h.os.2.1, hg.output.trans h.os.2.2.1, by have := hg.size; simp; omega⟩
      lt := h.lt }
theorem RdS.below {w : World} (h : RdS w4 wr gp it fm j vn vx ns xs) (hb : Below w.heap.size w w4) (h1 : w.heap.size ≤ gp) (h2 : w.heap.size ≤ it) : Below w.heap.size w wr :=
  ⟨h.os.1.trans hb.os, h.os.2.1.trans hb.tape, h.os.2.2.1.trans hb.output, Nat.le_trans hb.size h.os.2.2.2, fun k hk => (h.far k (by have := hb.size; omega) (by omega) (by omega)).trans (hb.block k hk)⟩
end
theorem wpList_lit1 {P : Program} {w : World} {ops : Array Oper} {rest : List Oper} {o : Oper} {a : Act} {Q : Exit → Act → World → Prop} (hgd : o.guard = none) (ty : TypeId) (et : TypeId) (x : Operand) (v : Value) (ho : o.op = .buildSlice ty 1 #[(0, x)]) (hx : a.eval x = v)
    (hr : ∀ w : World, (Instr.buildSlice ty 1 #[(0, v)]).run P w = .ok (.slice (some ⟨w.heap.size, 0, none⟩) 1 1) (w.alloc (.cells #[v] et)))
    (h : ∀ (w' : World) (g : Nat), Blk w' g et #[v] → w.grownBy w' none → w.heap.size ≤ g → wpList P ops Q rest (a.put o.dst (.slice (some ⟨g, 0, none⟩) 1 1)) w') : wpList P ops Q (o :: rest) a w :=
  wpList_plain hgd fun _ hK => wp_lit1 ty et x v ho hx hr fun w' g h1 h2 h3 => hK _ _ (h w' g h1 h2 h3)
section
variable {f : List UInt8} {ws ns : List (List UInt8)} {xs : List Nat} {e : Int} {j : Nat} {w : List UInt8}
theorem args_at_w (hf : f[j]? = some 87) (hw : ws[j]? = some w) : argsP (f.drop j) (ws.drop j) ns xs e = if isName w then argsP (f.drop (j + 1)) (ws.drop (j + 1)) (ns ++ [w]) xs e else (8, [], []) := by
  obtain ⟨h1, e1⟩ := List.getElem?_eq_some_iff.1 hf
  obtain ⟨h2, e2⟩ := List.getElem?_eq_some_iff.1 hw
  rw [List.drop_eq_getElem_cons h1, List.drop_eq_getElem_cons h2, e1, e2, argsP]
  rfl
theorem args_at_n {c : UInt8} (hc : c ≠ 87) (hf : f[j]? = some c) (hw : ws[j]? = some w) : argsP (f.drop j) (ws.drop j) ns xs e = match numOf w 3 with
    | none => (9, [], [])
    | some n => argsP (f.drop (j + 1)) (ws.drop (j + 1)) ns (xs ++ [n]) (if fitsK c n then e else 1) := by
  obtain ⟨h1, e1⟩ := List.getElem?_eq_some_iff.1 hf
  obtain ⟨h2, e2⟩ := List.getElem?_eq_some_iff.1 hw
  rw [List.drop_eq_getElem_cons h1, List.drop_eq_getElem_cons h2, e1, e2, argsP, if_neg (by simpa using hc)]
  rfl
end
theorem kindFn_enters {k : Nat} (h0 : k ≠ 0) (h9 : k < 10) : ∀ args w, (callFunc (kindFn k) args).run Tryz.prog w = .ok (.enter (kindFn k) args) w := by
  match k, h0, h9 with
  | 1, _, _ => exact enters_of Tryz.func157 (by kernel_rfl) rfl
  | 2, _, _ => exact enters_of Tryz.func158 (by kernel_rfl) rfl
  | 3, _, _ => exact enters_of Tryz.func159 (by kernel_rfl) rfl
  | 4, _, _ => exact enters_of Tryz.func160 (by kernel_rfl) rfl
  | 5, _, _ => exact enters_of Tryz.func161 (by kernel_rfl) rfl
  | 6, _, _ => exact enters_of Tryz.func162 (by kernel_rfl) rfl
  | 7, _, _ => exact enters_of Tryz.func163 (by kernel_rfl) rfl
  | 8, _, _ => exact enters_of Tryz.func164 (by kernel_rfl) rfl
  | 9, _, _ => exact enters_of Tryz.func165 (by kernel_rfl) rfl
end Dr
end Go.Proofs.YtbgakdpbglpfaaaGreatDoor
