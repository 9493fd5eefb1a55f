/- A []byte that words are appended to (append(out, s...)); what grows by a rule, plainly. -/
import Derived.Test.YtdaaiockkbolbaaFits
import Derived.Test.YtdaaiockkbolbaaNext
import Derived.Deep.AppendSrc
namespace Go.Proofs.Ytdaaiockkbolbaa
open Go.RowKit
/-- the slice v, of the call's own from block 'base' on, reads as l, and all its room can be written -/
def OwnG (w : World) (base : Nat) (v : Value) (l : Word) : Prop :=
  ∃ g off cap, v = .slice (some ⟨g, off, none⟩) l.length cap ∧ base ≤ g ∧ g < w.heap.size ∧ l.length ≤ cap ∧ cap ≤ maxLen ∧
    (∀ j, j < cap → (w.cell? ⟨g, off + j, none⟩).isSome = true ∧ w.frozen? ⟨g, off + j, none⟩ = false) ∧
    ∀ (j : Nat) (b : UInt8), l[j]? = some b → w.cell? ⟨g, off + j, none⟩ = some (.int .u8 (b.toNat : Int))
section
variable {w w' : World} {base : Nat} {v : Value} {l : Word}
theorem OwnG.of_row {g : Nat} (h : Row8 w v (some g) l) (hb : base ≤ g) : OwnG w base v l := by
  have hlt := h.lt rfl
  obtain ⟨A, cap, rfl, h2, h3, h4, h5⟩ := h
  obtain ⟨off, cs, rfl, e2, e3, e4⟩ := h5 g rfl
  refine ⟨g, off, cap, rfl, hb, hlt, h2, h3, fun j hj => ⟨?_, e2.frozen (by omega)⟩, fun j b hj => by rw [e2.cell]; exact e4 j b hj⟩
  rw [e2.cell, Array.getElem?_eq_getElem (by omega)]; rfl
theorem OwnG.below (h : OwnG w base v l) (hb : Below w.heap.size w w') : OwnG w' base v l := by
  obtain ⟨g, off, cap, rfl, h1, h2, h3, h4, h5, h6⟩ := h
  refine ⟨g, off, cap, rfl, h1, Nat.lt_of_lt_of_le h2 hb.size, h3, h4, fun j hj => ?_, fun j b hj => ?_⟩
  · rw [hb.cell (p := ⟨g, off + j, none⟩) h2, hb.frozen (p := ⟨g, off + j, none⟩) h2]; exact h5 j hj
  · rw [hb.cell (p := ⟨g, off + j, none⟩) h2]; exact h6 j b hj
theorem OwnG.at_ {g off m cap : Nat} (h : OwnG w base (.slice (some ⟨g, off, none⟩) m cap) l) {j : Nat} {b : UInt8} (hj : l[j]? = some b) : w.cell? ⟨g, off + j, none⟩ = some (.int .u8 (b.toNat : Int)) := by
  obtain ⟨g', off', cap', e, _, _, _, _, _, h6⟩ := h
  simp only [Value.slice.injEq, Option.some.injEq, Addr.mk.injEq] at e
  obtain ⟨⟨rfl, rfl, _⟩, _, _⟩ := e
  exact h6 j b hj
theorem OwnG.drew (h : OwnG w base v l) : OwnG w.drew base v l := h
theorem OwnG.drewN (h : OwnG w base v l) (n : Nat) : OwnG (w.drewN n) base v l := h
theorem below_setCells {B b : Nat} (hb : B ≤ b) : ∀ (vs : List Value) (o : Nat) (w : World), Below B w (w.setCells b o vs)
  | [], _, _ => Below.refl _ _
  | v :: r, o, w => ((Below.refl B w).setCell (p := ⟨b, o, none⟩) hb v).trans (below_setCells hb r (o + 1) (w.setCell ⟨b, o, none⟩ v))
theorem size_setCells {b : Nat} : ∀ (vs : List Value) (o : Nat) (w : World), (w.setCells b o vs).heap.size = w.heap.size
  | [], _, _ => rfl
  | v :: r, o, w => by rw [World.setCells, size_setCells r]; simp
theorem strCells_get (t : ByteArray) (j : Nat) : (byteCells t)[j]? = ((bts t)[j]?).map fun b => Value.int .u8 (b.toNat : Int) := by simp [byteCells, bts]
theorem wp_pushStr {o : Oper} {a : Act} {K : Act → World → Prop} {Q : Exit → Act → World → Prop} (s x : Operand)
    (ho : o.op = .call { callee := .builtin .append, args := #[s, x], argTypes := #[55, 9] }) (hs : a.eval s = v) (hown : OwnG w base v l)
    (t : ByteArray) (hx : a.eval x = .string t) (hlen : l.length + t.size ≤ 1000000) (hbase : base ≤ w.heap.size)
    (h : ∀ v' w', OwnG w' base v' (l ++ bts t) → OwnG w' base v l → Below base w w' → K (a.put o.dst v') w') : o.wp Try.prog a w K Q := by
  obtain ⟨i0, hi0, hz0, hz1, hz2⟩ := info_parts infoU8
  obtain ⟨g, off, cap, rfl, h1, h2, h3, h4, h5, h6⟩ := hown
  have hsrc := Src.ofString (P := Try.prog) w (tx := 9) Try.underlying9 t
  have hnl : (byteCells t).length = t.size := byteCells_length t
  have hll : (l ++ bts t).length = l.length + t.size := by rw [List.length_append, bts_len]
  have fin : ∀ v' w', (Builtin.append_ #[55, 9] o.type #[.slice (some ⟨g, off, none⟩) l.length cap, .string t]).run Try.prog w = .ok v' w' → OwnG w' base v' (l ++ bts t) → OwnG w' base (.slice (some ⟨g, off, none⟩) l.length cap) l → Below base w w' → o.wp Try.prog a w K Q := by
    intro v' w' hr h7 h9 h8
    unfold Oper.wp execOp
    simp only [ho, resolve, invoke, builtin, Sem.run_bind, Sem.run_pure, Result.andThen_ok, List.map_toArray, List.map_cons, List.map_nil, hs, hx, hr]
    exact h v' w' h7 h9 h8
  by_cases hroom : l.length + t.size ≤ cap
  · have hr := run_append_room_src (P := Try.prog) w 55 9 o.type 5 i0 Try.underlying55 hi0 g off l.length cap (.string t) t.size (byteCells t) (by rw [hz1]; exact hsrc) hroom
      (fun j hj => by rw [hz1, Nat.mul_one, Nat.add_assoc]; exact (h5 _ (by omega)).1) (fun j hj => by rw [hz1, Nat.mul_one, Nat.add_assoc]; exact (h5 _ (by omega)).2)
    rw [hz1, Nat.mul_one] at hr
    refine fin _ _ hr ⟨g, off, cap, by rw [hll], h1, by rw [size_setCells]; exact h2, by rw [hll]; exact hroom, h4, fun j hj => ⟨World.isSome_setCells g _ _ _ _ (h5 j hj).1, by rw [World.frozen?_setCells]; exact (h5 j hj).2⟩, fun j b hj => ?_⟩ ⟨g, off, cap, rfl, h1, by rw [size_setCells]; exact h2, h3, h4, fun j hj => ⟨World.isSome_setCells g _ _ _ _ (h5 j hj).1, by rw [World.frozen?_setCells]; exact (h5 j hj).2⟩, fun j b hj => by
      have hjl := (List.getElem?_eq_some_iff.1 hj).1
      rw [World.cell?_setCells_out g _ _ _ _ (fun _ _ => Or.inl (by show off + j < _; omega))]
      exact h6 j b hj⟩ (below_setCells h1 _ _ _)
    by_cases hjl : j < l.length
    · rw [World.cell?_setCells_out g _ _ _ _ (fun _ _ => Or.inl (by show off + j < _; omega))]
      rw [List.getElem?_append_left hjl] at hj
      exact h6 j b hj
    · rw [List.getElem?_append_right (by omega)] at hj
      have hjt : j - l.length < (byteCells t).length := by
        have := (List.getElem?_eq_some_iff.1 hj).1
        rw [bts_len] at this; omega
      have := World.cell?_setCells_in g (byteCells t) (off + l.length) w (fun k hk => by rw [Nat.add_assoc]; exact (h5 _ (by omega)).1) (j - l.length) hjt
      rw [show off + l.length + (j - l.length) = off + j by omega] at this
      rw [this, ← List.getElem?_eq_getElem hjt, strCells_get, hj]; rfl
  · have hold := run_firstCells_some (P := Try.prog) w.drew 1 l.length ⟨g, off, none⟩ l.length cap (l.map fun b : UInt8 => Value.int .u8 (b.toNat : Int)) (by simp) (fun j u hj => by
      rw [List.getElem?_map] at hj
      obtain ⟨b, hb1, rfl⟩ := Option.map_eq_some_iff.1 hj
      rw [Addr.add_lit]
      exact h6 j b hb1)
    have hr := run_append_grow_src (P := Try.prog) w 55 9 o.type 5 i0 (.int .u8 0) Try.underlying55 hi0 hz0 (some ⟨g, off, none⟩) l.length cap _ (by rw [hz1]; exact hold) (.string t) t.size (byteCells t) (by rw [hz1]; exact hsrc) (by omega) (by omega)
      (by rw [hz2]; exact growslice_fits (by omega) (by omega))
    have hge := grownCap_ge w (l.length + t.size) cap 5
    have hmx := grownCap_le_maxLen w (l.length + t.size) cap 5 (by simp only [maxLen]; omega)
    generalize hc : grownCap w (l.length + t.size) cap 5 = c at hr hge hmx
    have hb2 := ((Below.refl w.heap.size w.drew).alloc (Nat.le_refl _) (.cells ((l.map (fun b : UInt8 => Value.int .u8 (b.toNat : Int)) ++ byteCells t).toArray ++ Builtin.zeroCells (Value.int .u8 0).cells (c - (l.length + t.size))) 5))
    refine fin _ _ hr ⟨w.heap.size, 0, c, by rw [hll], hbase, by simp, by rw [hll]; exact hge, hmx, fun j hj => ?_, fun j b hj => ?_⟩ (OwnG.below ⟨g, off, cap, rfl, h1, h2, h3, h4, h5, h6⟩ ((below_drewN (Below.refl w.heap.size w) 1).trans hb2)) ((below_drewN (Below.refl base w) 1).trans (hb2.mono hbase))
    · have hcell := cell_of_row _ w.heap.size (0 + j) _ 5 (0, 0) (heap_alloc_new w.drew (.cells ((l.map (fun b : UInt8 => Value.int .u8 (b.toNat : Int)) ++ byteCells t).toArray ++ Builtin.zeroCells (Value.int .u8 0).cells (c - (l.length + t.size))) 5))
      refine ⟨?_, (Blk.new w.drew 5 _).frozen (0 + j)⟩
      have hz1' : (Value.int IntKind.u8 0).cells.size = 1 := rfl
      rw [hcell, Array.getElem?_eq_getElem (by
        simp only [Array.size_append, List.size_toArray, size_zeroCells, hz1', List.length_append, List.length_map, hnl]
        omega)]
      rfl
    · have hcell := cell_of_row _ w.heap.size (0 + j) _ 5 (0, 0) (heap_alloc_new w.drew (.cells ((l.map (fun b : UInt8 => Value.int .u8 (b.toNat : Int)) ++ byteCells t).toArray ++ Builtin.zeroCells (Value.int .u8 0).cells (c - (l.length + t.size))) 5))
      have hjl := (List.getElem?_eq_some_iff.1 hj).1
      rw [hll] at hjl
      have e1 : l.map (fun b : UInt8 => Value.int .u8 (b.toNat : Int)) ++ byteCells t = (l ++ bts t).map fun b : UInt8 => Value.int .u8 (b.toNat : Int) := by simp [byteCells, bts]
      have hjl2 : j < ((l.map (fun b : UInt8 => Value.int .u8 (b.toNat : Int)) ++ byteCells t).toArray).size := by
        simp only [List.size_toArray, List.length_append, List.length_map, hnl]; omega
      rw [hcell, Nat.zero_add, Array.getElem?_append_left hjl2, List.getElem?_toArray, e1, List.getElem?_map, hj]
      rfl
theorem step_pushStr {ops : Array Oper} {o : Oper} {a : Act} {K : Act → World → Prop} {Q : Exit → Act → World → Prop} {E : Prop} (hgd : o.guard = none) (s x : Operand)
    (ho : o.op = .call { callee := .builtin .append, args := #[s, x], argTypes := #[55, 9] }) (hs : a.eval s = v) (hown : OwnG w base v l)
    (t : ByteArray) (hx : a.eval x = .string t) (hlen : l.length + t.size ≤ 1000000) (hbase : base ≤ w.heap.size)
    (h : ∀ v' w', OwnG w' base v' (l ++ bts t) → OwnG w' base v l → Below base w w' → K (a.put o.dst v') w') :
    if Region.wanted o (yielded ops a.tmps) = true then Oper.wp Try.prog o a w K Q else E := by
  have hw : Region.wanted o (yielded ops a.tmps) = true := by simp [Region.wanted, hgd]
  rw [if_pos hw]
  exact wp_pushStr s x ho hs hown t hx hlen hbase h
end
/-- a beginning of what grows -/
def IsGrow (ws : List ByteArray) (u : Word) : Prop := u[0]? = some 97 ∧ ∃ z, putS ws u = u ++ z
theorem putS_append (ws : List ByteArray) (x y : Word) : putS ws (x ++ y) = putS ws x ++ putS ws y := by simp [putS]
theorem putS_long {ws : List ByteArray} {n K : Nat} (hlen : ws.length = n) (hk : ∀ t ∈ ws, t.size = K) {x : Word} (hl : lettersS x (n : Int) = true) : (putS ws x).length = x.length * K := by
  induction x with
  | nil => simp [putS]
  | cons b x ih =>
    simp only [lettersS, List.all_cons, Bool.and_eq_true, decide_eq_true_eq] at hl
    have hb : b.toNat - 97 < ws.length := by omega
    have hw : (wordOf ws b).length = K := by
      unfold wordOf
      rw [bts_len, List.getD, List.getElem?_eq_getElem hb]
      exact hk _ (List.getElem_mem hb)
    have e : putS ws (b :: x) = wordOf ws b ++ putS ws x := by simp [putS]
    rw [e, List.length_append, List.length_cons, Nat.succ_mul, hw, ih (by simp only [lettersS]; exact hl.2)]
    omega
theorem letters_app {x y : Word} {n : Int} : lettersS (x ++ y) n = (lettersS x n && lettersS y n) := by simp [lettersS]
theorem letters_part {x : Word} {n : Int} (h : lettersS x n = true) (k : Nat) : lettersS (x.take k) n = true := by
  have := h
  rw [← List.take_append_drop k x, letters_app, Bool.and_eq_true] at this
  exact this.1
theorem letters_put {ws : List ByteArray} {n : Int} (h : ∀ t ∈ ws, lettersS (bts t) n = true) (x : Word) : lettersS (putS ws x) n = true := by
  induction x with
  | nil => rfl
  | cons b x ih =>
    have e : putS ws (b :: x) = wordOf ws b ++ putS ws x := by simp [putS]
    rw [e, letters_app, ih, Bool.and_true]
    unfold wordOf
    rw [List.getD]
    cases hg : ws[b.toNat - 97]? with
    | none => rfl
    | some t => exact h t (List.mem_of_getElem? hg)
/-- two beginnings of what grows are one as far as both reach -/
theorem grow_uniq {ws : List ByteArray} {n K : Nat} (hlen : ws.length = n) (hk : ∀ t ∈ ws, t.size = K) (hK : 2 ≤ K) {u v : Word} (hlu : lettersS u (n : Int) = true) (hu : IsGrow ws u) (hv : IsGrow ws v) :
    ∀ N, N ≤ u.length → N ≤ v.length → u.take N = v.take N := by
  intro N
  induction N using Nat.strongRecOn with
  | ind N ih =>
    intro h1 h2
    match N, ih with
    | 0, _ => rfl
    | 1, _ =>
      rw [List.take_add_one, List.take_add_one, hu.1, hv.1]; rfl
    | N + 2, ih =>
      have hp := ih (N + 1) (by omega) (by omega) (by omega)
      have hl : (putS ws (u.take (N + 1))).length = (N + 1) * K := by
        rw [putS_long hlen hk (letters_part hlu _), List.length_take, Nat.min_eq_left (by omega)]
      have hl2 : (N + 1) * 2 ≤ (N + 1) * K := Nat.mul_le_mul_left _ hK
      have key : ∀ x : Word, N + 2 ≤ x.length → IsGrow ws x → x.take (N + 2) = (putS ws (x.take (N + 1))).take (N + 2) ∨ (putS ws (x.take (N + 1))).length < N + 2 := by
        intro x hx hg
        obtain ⟨z, hz⟩ := hg.2
        by_cases hs : (putS ws (x.take (N + 1))).length < N + 2
        · exact Or.inr hs
        · left
          have e : putS ws x = putS ws (x.take (N + 1)) ++ putS ws (x.drop (N + 1)) := by rw [← putS_append, List.take_append_drop]
          have h3 : (putS ws x).take (N + 2) = x.take (N + 2) := by rw [hz, List.take_append_of_le_length hx]
          rw [← h3, e, List.take_append_of_le_length (by omega)]
      rcases key u h1 hu with ku | ku
      · rcases key v h2 hv with kv | kv
        · rw [ku, kv, hp]
        · rw [← hp] at kv; omega
      · omega
/-- the reference's rounds -/
def growG (ws : List ByteArray) (L : Nat) : Nat → Word → Word
  | 0, u => u
  | f + 1, u => if u.length < L then growG ws L f (putS ws u) else u
theorem IsGrow.put {ws : List ByteArray} {u : Word} (hu : IsGrow ws u) : IsGrow ws (putS ws u) := by
  obtain ⟨h0, z, hz⟩ := hu
  refine ⟨?_, putS ws z, by conv => lhs; rw [hz]
                            rw [putS_append]⟩
  rw [hz, List.getElem?_append_left (List.getElem?_eq_some_iff.1 h0).1]
  exact h0
/-- a rule from which something grows -/
structure Grows (ws : List ByteArray) (n K : Nat) : Prop where
  len : ws.length = n
  n1 : 1 ≤ n
  n4 : n ≤ 4
  size : ∀ t ∈ ws, t.size = K
  K2 : 2 ≤ K
  K13 : K ≤ 13
  letters : ∀ t ∈ ws, lettersS (bts t) (n : Int) = true
  first : (wordOf ws 97)[0]? = some 97
section
variable {ws : List ByteArray} {n K : Nat} (h : Grows ws n K)
include h
theorem Grows.one : IsGrow ws [97] := by
  refine ⟨rfl, (wordOf ws 97).drop 1, ?_⟩
  have e : putS ws [97] = wordOf ws 97 := by simp [putS]
  have hf := h.first
  rw [e]
  cases hw : wordOf ws 97 with
  | nil => rw [hw] at hf; cases hf
  | cons a l => rw [hw] at hf; simp at hf; subst hf; rfl
theorem Grows.one_letters : lettersS [97] (n : Int) = true := by
  have := h.n1
  simp [lettersS]; omega
theorem Grows.longer {u : Word} (hu : IsGrow ws u) (hl : lettersS u (n : Int) = true) : u.length + 1 ≤ (putS ws u).length ∧ (putS ws u).length = u.length * K := by
  have h1 := putS_long h.len h.size hl
  have h2 : 1 ≤ u.length := (List.getElem?_eq_some_iff.1 hu.1).1
  have h3 : u.length * 2 ≤ u.length * K := Nat.mul_le_mul_left _ h.K2
  omega
theorem Grows.rounds (L f : Nat) : ∀ u, IsGrow ws u → lettersS u (n : Int) = true → L ≤ u.length + f → IsGrow ws (growG ws L f u) ∧ lettersS (growG ws L f u) (n : Int) = true ∧ L ≤ (growG ws L f u).length := by
  induction f with
  | zero => intro u hu hl hL; exact ⟨hu, hl, hL⟩
  | succ f ih =>
    intro u hu hl hL
    rw [growG]
    split
    · have := (h.longer hu hl).1
      exact ih _ hu.put (letters_put h.letters u) (by omega)
    · exact ⟨hu, hl, by omega⟩
end
/-- what grows, as far as is asked -/
def growW (ws : List ByteArray) (L : Nat) : Word := (growG ws L L [97]).take L
theorem Grows.val {ws : List ByteArray} {n K : Nat} (h : Grows ws n K) {u : Word} (hu : IsGrow ws u) (hl : lettersS u (n : Int) = true) {L : Nat} (hL : L ≤ u.length) : u.take L = growW ws L := by
  obtain ⟨h1, _, h3⟩ := h.rounds L L [97] h.one h.one_letters (by simp)
  exact grow_uniq h.len h.size h.K2 hl hu h1 L hL h3
def growE (ws : List ByteArray) (l : Int) : Int := if ruleE ws ≠ 0 then ruleE ws else if ¬ (0 ≤ l ∧ l ≤ 600) then 1 else if (ws.headD ⟨#[]⟩).size = 1 ∨ (bts (ws.headD ⟨#[]⟩))[0]? ≠ some 97 then 12 else if ws.all (fun t => lettersS (bts t) ws.length) then 0 else 2
def growV (ws : List ByteArray) (l : Int) : Word := if growE ws l = 0 then growW ws l.toNat else []
theorem grows_of {ws : List ByteArray} (h0 : ruleE ws = 0) (h1 : ¬ ((ws.headD ⟨#[]⟩).size = 1 ∨ (bts (ws.headD ⟨#[]⟩))[0]? ≠ some 97)) (h2 : ws.all (fun t => lettersS (bts t) ws.length) = true) : Grows ws ws.length (ws.headD ⟨#[]⟩).size := by
  obtain ⟨z1, z2, z3, z4, z5⟩ := ruleE_zero h0
  refine ⟨rfl, z1, z2, fun t ht => (z5 t ht).1, by omega, z4, fun t ht => List.all_eq_true.1 h2 t ht, ?_⟩
  cases ws with
  | nil => simp at z1
  | cons a l =>
    have : (bts a)[0]? = some 97 := by
      by_cases hq : (bts a)[0]? = some 97
      · exact hq
      · exact absurd (Or.inr hq) h1
    exact this
end Go.Proofs.Ytdaaiockkbolbaa
