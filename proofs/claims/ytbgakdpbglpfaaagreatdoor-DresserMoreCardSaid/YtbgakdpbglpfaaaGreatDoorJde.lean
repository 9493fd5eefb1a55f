/- The texts Det to Chain, joined by joinlist.py: their statements say what each proves. -/
import Derived.Test.YtbgakdpbglpfaaaGreatDoorKit
import Derived.Deep.RegionHeld3
-- the text Det
namespace Go.Proofs.YtbgakdpbglpfaaaGreatDoor
namespace De
theorem g0 {α : Type} {l : List α} {i : Nat} : l.toArray[i]? = l[i]? := List.getElem?_toArray
theorem g1 {α : Type} {a : α} {l : List α} {i : Nat} : (a :: l)[i + 1]? = l[i]? := List.getElem?_cons_succ
theorem g2 {α : Type} {a : α} {l : List α} : (a :: l)[0]? = some a := List.getElem?_cons_zero
theorem l0 {α : Type} (l : List α) (i : Nat) (a : α) : l.toArray.setIfInBounds i a = (l.set i a).toArray := List.setIfInBounds_toArray l i a
theorem l1 {α : Type} {x : α} {l : List α} {a : α} : (x :: l).set 0 a = a :: l := List.set_cons_zero
theorem l2 {α : Type} {x : α} {l : List α} {i : Nat} {a : α} : (x :: l).set (i + 1) a = x :: l.set i a := List.set_cons_succ
end De
open Go.RowKit
namespace De
section
variable {P : Program} {ops : Array Oper} {Q : Exit → Act → World → Prop} {md : Region.Mode} {w0 : World}
/-- in every world that grew out of w0 the operation yields v; the world grows only -/
def Acts (P : Program) (ops : Array Oper) (w0 : World) (o : Oper) (v : Value) (a : Act) : Prop :=
  (Region.wanted o (yielded ops a.tmps) = true ∧ ∀ w, Below w0.heap.size w0 w →
    (execOp a.eval o).run P w = .ok (.value v) w ∨ ∃ f args, (execOp a.eval o).run P w = .ok (.enter f args) w ∧ Calls P f args w fun e w' => e = .returned v ∧ Below w.heap.size w w') ∨
  (Region.wanted o (yielded ops a.tmps) = false ∧ v = undef)
theorem Acts.pure {o : Oper} {v : Value} {a : Act} (hw : Region.wanted o (yielded ops a.tmps) = true) (h : ∀ w, Below w0.heap.size w0 w → (execOp a.eval o).run P w = .ok (.value v) w) : Acts P ops w0 o v a :=
  Or.inl ⟨hw, fun w hb => Or.inl (h w hb)⟩
theorem Acts.call {o : Oper} {v : Value} {a : Act} (f : FuncId) (args : Array Value) (hw : Region.wanted o (yielded ops a.tmps) = true) (hr : ∀ w, (execOp a.eval o).run P w = .ok (.enter f args) w)
    (h : ∀ w, Below w0.heap.size w0 w → Calls P f args w fun e w' => e = .returned v ∧ Below w.heap.size w w') : Acts P ops w0 o v a :=
  Or.inl ⟨hw, fun w hb => Or.inr ⟨f, args, hr w, h w hb⟩⟩
theorem Acts.not {o : Oper} {a : Act} (hw : Region.wanted o (yielded ops a.tmps) = false) : Acts P ops w0 o undef a := Or.inr ⟨hw, rfl⟩
theorem Acts.same {o : Oper} {v : Value} {a a' : Act} (h : Acts P ops w0 o v a) (he : execOp a'.eval o = execOp a.eval o)
    (hw : Region.wanted o (yielded ops a'.tmps) = Region.wanted o (yielded ops a.tmps)) : Acts P ops w0 o v a' := by
  unfold Acts at *
  rw [he, hw]
  exact h

/-- the blocks that the region has made: whether it has stored into one, and what it holds -/
abbrev Own := Nat → Option (Bool × TypeId × Array Value)
def Own.put (O : Own) (g : Nat) (x : Bool × TypeId × Array Value) : Own := fun k => if k = g then some x else O k
theorem Own.put_self (O : Own) (g : Nat) (x) : O.put g x g = some x := by simp [Own.put]
theorem Own.put_ne (O : Own) {g k : Nat} (x) (h : k ≠ g) : O.put g x k = O k := by simp [Own.put, h]
theorem Own.put_comm (O : Own) {g k : Nat} (x y) (h : k ≠ g) : (O.put g x).put k y = (O.put k y).put g x := by
  funext i
  unfold Own.put
  by_cases h1 : i = g <;> by_cases h2 : i = k <;> simp [h1, h2]
  · exact absurd (h2.symm.trans h1) h
  · intro e; exact absurd e.symm h
  · intro e; exact absurd e h
def InO (w0 : World) (O : Own) (w : World) : Prop := Below w0.heap.size w0 w ∧ ∀ g b t cs, O g = some (b, t, cs) → w0.heap.size ≤ g ∧ Blk w g t cs
def cellsOf : Value → Array Value
  | .agg cs => cs
  | v => #[v]
def Allocs (P : Program) (a : Act) (o : Oper) (ty : TypeId) (z : Array Value) : Prop :=
  o.guard = none ∧ o.op = .alloc ty ∧ ∀ w, (execOp a.eval o).run P w = .ok (.value (.pointer (some ⟨w.heap.size, 0, none⟩))) (w.alloc (.cells z ty))
def Stores (P : Program) (a : Act) (o : Oper) (g : Nat) (t : TypeId) (cs cs' : Array Value) : Prop :=
  o.guard = none ∧ ∃ ty x y, o.op = .store ty x y ∧ a.eval x = .pointer (some ⟨g, 0, none⟩) ∧ cs' = cellsOf (a.eval y) ∧
    ∀ w, Blk w g t cs → ∃ w', (execOp a.eval o).run P w = .ok .skip w' ∧ Blk w' g t cs' ∧ w.grownBy w' (some g)
theorem eval_of_op {o : Oper} {a : Act} {d : Option Tmp} {v : Value} {x : Operand} (hx : x ∈ o.op.operands) (h : ∀ e, d = some e → e ∉ o.looksAt ops) : (a.put d v).eval x = a.eval x :=
  Act.eval_put fun e he hxe => h e he (by subst hxe; exact List.mem_append_left _ (List.mem_filterMap.2 ⟨.tmp e, by simpa using hx, rfl⟩))
theorem Allocs.same {o : Oper} {a a' : Act} {ty : TypeId} {z : Array Value} (h : Allocs P a o ty z) (he : execOp a'.eval o = execOp a.eval o) : Allocs P a' o ty z := by
  obtain ⟨h1, h2, h3⟩ := h
  exact ⟨h1, h2, fun w => by rw [he]; exact h3 w⟩
theorem Stores.put {o : Oper} {a : Act} {g : Nat} {t : TypeId} {cs cs' : Array Value} {d : Option Tmp} {v : Value} (hs : ∀ c b, o.op ≠ .select c b) (h : ∀ e, d = some e → e ∉ o.looksAt ops) :
    Stores P (a.put d v) o g t cs cs' ↔ Stores P a o g t cs cs' := by
  have he := execOp_put (ops := ops) o hs a d v h
  constructor
  · rintro ⟨h1, ty, x, y, h2, h3, h4, h5⟩
    have ex := eval_of_op (ops := ops) (a := a) (v := v) (o := o) (x := x) (by rw [h2]; simp [Op.operands]) h
    have ey := eval_of_op (ops := ops) (a := a) (v := v) (o := o) (x := y) (by rw [h2]; simp [Op.operands]) h
    exact ⟨h1, ty, x, y, h2, ex ▸ h3, ey ▸ h4, fun w hw => by rw [← he]; exact h5 w hw⟩
  · rintro ⟨h1, ty, x, y, h2, h3, h4, h5⟩
    have ex := eval_of_op (ops := ops) (a := a) (v := v) (o := o) (x := x) (by rw [h2]; simp [Op.operands]) h
    have ey := eval_of_op (ops := ops) (a := a) (v := v) (o := o) (x := y) (by rw [h2]; simp [Op.operands]) h
    exact ⟨h1, ty, x, y, h2, ex ▸ h3, ey ▸ h4, fun w hw => by rw [he]; exact h5 w hw⟩
theorem free_mono {i j : Nat} {listed : Array Bool} (h : Region.free md ops listed i = true) : Region.free md ops (listed.setIfInBounds j true) i = true := by
  unfold Region.free at *
  split at h
  · cases h
  · rename_i oi hoi
    rw [List.all_eq_true] at h ⊢
    intro k hk
    have := h k hk
    by_cases hjk : j = k
    · subst hjk
      have hl : (listed.setIfInBounds j true).getD j true = true := by
        by_cases hlt : j < listed.size
        · simp [hlt]
        · simp [hlt]
      rw [hl]
      simp
    · rw [getD_set_ne true hjk]
      exact this

inductive Det2 (P : Program) (ops : Array Oper) (Q : Exit → Act → World → Prop) (md : Region.Mode) (w0 : World) : Array Bool → Own → Act → Prop
  | done {listed : Array Bool} {O : Own} {a : Act} (hr : Region.ready md ops listed = []) (h : ∀ w, InO w0 O w → Q .normal a w) : Det2 P ops Q md w0 listed O a
  | alloc {listed : Array Bool} {O : Own} {a : Act} (i : Nat) {o : Oper} {ty : TypeId} {z : Array Value} (ho : ops[i]? = some o) (hf : Region.free md ops listed i = true) (hr : i ∈ Region.ready md ops listed) (ha : Allocs P a o ty z)
      (h : ∀ g, O g = none → Det2 P ops Q md w0 (listed.setIfInBounds i true) (O.put g (false, ty, z)) (a.put o.dst (.pointer (some ⟨g, 0, none⟩)))) : Det2 P ops Q md w0 listed O a
  | store {listed : Array Bool} {O : Own} {a : Act} (i : Nat) {o : Oper} {g : Nat} {t : TypeId} {cs cs' : Array Value} (ho : ops[i]? = some o) (hf : Region.free md ops listed i = true) (hr : i ∈ Region.ready md ops listed) (hg : O g = some (false, t, cs)) (ha : Stores P a o g t cs cs')
      (h : Det2 P ops Q md w0 (listed.setIfInBounds i true) (O.put g (true, t, cs')) (a.put o.dst undef)) : Det2 P ops Q md w0 listed O a

inductive Det (P : Program) (ops : Array Oper) (Q : Exit → Act → World → Prop) (md : Region.Mode) (w0 : World) : Array Bool → Own → Act → Prop
  | base {listed : Array Bool} {O : Own} {a : Act} (h : Det2 P ops Q md w0 listed O a) : Det P ops Q md w0 listed O a
  | acts {listed : Array Bool} {O : Own} {a : Act} (i : Nat) {o : Oper} {v : Value} (ho : ops[i]? = some o) (hf : Region.free md ops listed i = true) (hr : i ∈ Region.ready md ops listed) (ha : Acts P ops w0 o v a)
      (h : Det P ops Q md w0 (listed.setIfInBounds i true) O (a.put o.dst v)) : Det P ops Q md w0 listed O a

theorem InO.grows {O : Own} {w w' : World} (h : InO w0 O w) (hb : Below w.heap.size w w') : InO w0 O w' :=
  ⟨h.1.trans (hb.mono h.1.size), fun g b t cs ho => ⟨(h.2 g b t cs ho).1, (h.2 g b t cs ho).2.callee hb⟩⟩
def left (ops : Array Oper) (listed : Array Bool) : Nat := ((List.range ops.size).filter fun i => !listed.getD i true).length
theorem left_lt {listed : Array Bool} {j : Nat} (hj : j < ops.size) (hu : listed.getD j true = false) : left ops (listed.setIfInBounds j true) < left ops listed := by
  unfold left
  have hsub : ((List.range ops.size).filter fun i => !(listed.setIfInBounds j true).getD i true) = ((List.range ops.size).filter fun i => !listed.getD i true).filter fun i => !(i == j) := by
    rw [List.filter_filter]
    apply List.filter_congr
    intro i _
    by_cases h : j = i
    · subst h
      have hl : (listed.setIfInBounds j true).getD j true = true := by
        by_cases hlt : j < listed.size
        · simp [hlt]
        · simp [hlt]
      rw [hl]
      simp
    · rw [getD_set_ne true h]
      have : (i == j) = false := by simpa using fun e => h e.symm
      simp [this]
  rw [hsub]
  have hm : j ∈ (List.range ops.size).filter fun i => !listed.getD i true := List.mem_filter.2 ⟨List.mem_range.2 hj, by rw [hu]; rfl⟩
  generalize ((List.range ops.size).filter fun i => !listed.getD i true) = l at hm
  rcases Nat.lt_or_ge (l.filter fun i => !(i == j)).length l.length with h | h
  · exact h
  · have he := List.Sublist.eq_of_length_le (List.filter_sublist (p := fun i => !(i == j)) (l := l)) h
    rw [← he] at hm
    have := (List.mem_filter.1 hm).2
    simp at this
theorem ready_nil {listed : Array Bool} (h : left ops listed = 0) : Region.ready md ops listed = [] := by
  unfold left at h
  have h0 := List.length_eq_zero_iff.1 h
  unfold Region.ready
  rw [List.filter_eq_nil_iff] at h0 ⊢
  intro i hi
  have := h0 i hi
  simp only [Bool.not_eq_true', Bool.not_eq_false] at this
  simp [this]
theorem Det.end_ {listed : Array Bool} {O : Own} {a : Act} (h : Det P ops Q md w0 listed O a) (hr : Region.ready md ops listed = []) {w : World} (hw : InO w0 O w) : Q .normal a w := by
  cases h with
  | base h =>
    cases h with
    | done _ h => exact h w hw
    | alloc i _ _ h2 => rw [hr] at h2; cases h2
    | store i _ _ h2 => rw [hr] at h2; cases h2
  | acts i _ _ h2 => rw [hr] at h2; cases h2
theorem wanted_none {o : Oper} (h : o.guard = none) (y : Nat → Option Bool) : Region.wanted o y = true := by
  unfold Region.wanted
  rw [h]
/-! the moves -/
theorem of_contains {i : Nat} {listed : Array Bool} (h : (Region.ready md ops listed).contains i = true) : i ∈ Region.ready md ops listed := by simpa using h
theorem Det.read {listed : Array Bool} {O : Own} {a : Act} (i : Nat) {o : Oper} {v : Value} (ho : ops[i]? = some o) (hf : Region.free md ops listed i = true) (hr : (Region.ready md ops listed).contains i = true)
    (hw : Region.wanted o (yielded ops a.tmps) = true) (hy : ∀ w, Below w0.heap.size w0 w → (execOp a.eval o).run P w = .ok (.value v) w)
    (h : Det P ops Q md w0 (listed.setIfInBounds i true) O (a.put o.dst v)) : Det P ops Q md w0 listed O a := .acts i ho hf (of_contains hr) (.pure hw hy) h
theorem Det.skip {listed : Array Bool} {O : Own} {a : Act} (i : Nat) {o : Oper} (ho : ops[i]? = some o) (hf : Region.free md ops listed i = true) (hr : (Region.ready md ops listed).contains i = true)
    (hw : Region.wanted o (yielded ops a.tmps) = false) (h : Det P ops Q md w0 (listed.setIfInBounds i true) O (a.put o.dst undef)) : Det P ops Q md w0 listed O a := .acts i ho hf (of_contains hr) (.not hw) h
theorem Det.call {listed : Array Bool} {O : Own} {a : Act} (i : Nat) {o : Oper} {v : Value} {f : FuncId} {args : Array Value} (ho : ops[i]? = some o) (hf : Region.free md ops listed i = true) (hr : (Region.ready md ops listed).contains i = true)
    (hw : Region.wanted o (yielded ops a.tmps) = true) (he : ∀ w, (execOp a.eval o).run P w = .ok (.enter f args) w)
    (hc : ∀ w, Below w0.heap.size w0 w → Calls P f args w fun e w' => e = .returned v ∧ Below w.heap.size w w')
    (h : Det P ops Q md w0 (listed.setIfInBounds i true) O (a.put o.dst v)) : Det P ops Q md w0 listed O a := .acts i ho hf (of_contains hr) (.call f args hw he hc) h
theorem Det.guard {listed : Array Bool} {O : Own} {a : Act} (i : Nat) (b : Bool) {o : Oper} {v : Value} (ho : ops[i]? = some o) (hf : Region.free md ops listed i = true) (hr : (Region.ready md ops listed).contains i = true)
    (hw : Region.wanted o (yielded ops a.tmps) = b) (hy : b = true → ∀ w, Below w0.heap.size w0 w → (execOp a.eval o).run P w = .ok (.value v) w)
    (h : Det P ops Q md w0 (listed.setIfInBounds i true) O (a.put o.dst (if b = true then v else undef))) : Det P ops Q md w0 listed O a := by
  cases b with
  | true => exact .acts i ho hf (of_contains hr) (.pure hw (hy rfl)) h
  | false => exact .acts i ho hf (of_contains hr) (.not hw) h
theorem Det.frame {listed : Array Bool} {O : Own} {a a' : Act} (ha : a = a') (h : Det P ops Q md w0 listed O a') : Det P ops Q md w0 listed O a := ha ▸ h
theorem Det2.new {listed : Array Bool} {O : Own} {a : Act} (i : Nat) {o : Oper} (ty : TypeId) (z : Array Value) (ho : ops[i]? = some o) (hf : Region.free md ops listed i = true) (hr : (Region.ready md ops listed).contains i = true)
    (hg : o.guard = none) (hop : o.op = .alloc ty) (hz : ∀ w, (zeroValue ty).run P w = .ok (.agg z) w)
    (h : ∀ g, O g = none → Det2 P ops Q md w0 (listed.setIfInBounds i true) (O.put g (false, ty, z)) (a.put o.dst (.pointer (some ⟨g, 0, none⟩)))) : Det2 P ops Q md w0 listed O a :=
  .alloc i ho hf (of_contains hr) ⟨hg, hop, fun w => by unfold execOp; simp only [hop]; simp [go_sem, hz]⟩ h
theorem Det2.lay {listed : Array Bool} {O : Own} {a : Act} (i : Nat) {o : Oper} (ty : TypeId) (x y : Operand) (g : Nat) (t : TypeId) (cs cells : Array Value) (ho : ops[i]? = some o) (hf : Region.free md ops listed i = true) (hr : (Region.ready md ops listed).contains i = true)
    (hg : o.guard = none) (hop : o.op = .store ty x y) (hx : a.eval x = .pointer (some ⟨g, 0, none⟩)) (hy : a.eval y = .agg cells) (hO : O g = some (false, t, cs))
    (hi : (P.info? ty).map (·.size) = some cells.size) (hold : cs.size = cells.size) (h1 : cells.all (·.oneCell') = true)
    (h : Det2 P ops Q md w0 (listed.setIfInBounds i true) (O.put g (true, t, cells)) (a.put o.dst undef)) : Det2 P ops Q md w0 listed O a :=
  .store i ho hf (of_contains hr) hO ⟨hg, ty, x, y, hop, hx, by rw [hy]; rfl, fun w hw => ⟨w.setRow g cells, by
    unfold execOp
    simp only [hop, hx, hy, Instr.storeAt, Instr.sureAddr, Sem.run_bind, Sem.run_pure, Result.andThen_ok, run_storeVar_row w g t ty cs cells hw hi hold h1], Blk.row hw cells, grownBy_setRow w g cells⟩⟩ h
end
end De
end Go.Proofs.YtbgakdpbglpfaaaGreatDoor
-- the text Chain
namespace Go.Proofs.YtbgakdpbglpfaaaGreatDoor
open Go.RowKit
namespace De
section
variable {P : Program} {ops : Array Oper} {Q : Exit → Act → World → Prop} {md : Region.Mode} {I J : World → Prop} {c0 cl : Nat}
def NoQ : Exit → Act → World → Prop := fun _ _ _ => False
theorem noLet : ¬ LetsOut NoQ := fun ⟨_, _, h⟩ => h
/-- what becomes of a writer's walk where other slots were laid meanwhile -/
theorem upon_turn {o : Oper} {a b : Act} {K K' : Act → World → Prop} {R : Result Next} (h : o.upon P a K NoQ R) (hK : ∀ v w, K (a.put o.dst v) w → K' (b.put o.dst v) w)
    (hd : ∀ d w, ¬ K ({ a with defers := d :: a.defers }.put o.dst undef) w) : o.upon P b K' Q R := by
  cases R with
  | halt hh w =>
    cases hh <;> first | exact h.elim | exact False.elim h
  | ok n w =>
    cases n with
    | value v => exact hK v w h
    | skip => exact hK undef w h
    | defer d => exact (hd d w h).elim
    | enter f args =>
      rw [Oper.upon_enter] at h ⊢
      refine h.mono ?_
      intro e w' he
      cases e with
      | returned v => exact hK v w' he
      | panicked c => exact False.elim he
      | outgrown => exact (noLet he).elim
    | row r args =>
      rw [Oper.upon_row] at h ⊢
      exact Rows.mono h fun v w' hv => hK v w' hv
    | _ => exact False.elim h
/-- in every world with I the operation yields v, and leaves the world -/
def LateA (P : Program) (ops : Array Oper) (I : World → Prop) (o : Oper) (v : Value) (a : Act) : Prop :=
  (Region.wanted o (yielded ops a.tmps) = true ∧ ∀ w, I w → (execOp a.eval o).run P w = .ok (.value v) w) ∨ (Region.wanted o (yielded ops a.tmps) = false ∧ v = undef)
theorem LateA.same {o : Oper} {v : Value} {a a' : Act} (h : LateA P ops I o v a) (he : execOp a'.eval o = execOp a.eval o)
    (hw : Region.wanted o (yielded ops a'.tmps) = Region.wanted o (yielded ops a.tmps)) : LateA P ops I o v a' := by
  unfold LateA at *
  rw [he, hw]
  exact h
/-- in every world with J the operation yields v; the world grows only -/
def EarlyA (P : Program) (ops : Array Oper) (J : World → Prop) (o : Oper) (v : Value) (a : Act) : Prop :=
  (Region.wanted o (yielded ops a.tmps) = true ∧ ∀ w, J w → (execOp a.eval o).run P w = .ok (.value v) w ∨ ∃ f args, (execOp a.eval o).run P w = .ok (.enter f args) w ∧ Calls P f args w fun e w' => e = .returned v ∧ J w') ∨
  (Region.wanted o (yielded ops a.tmps) = false ∧ v = undef)
theorem EarlyA.same {o : Oper} {v : Value} {a a' : Act} (h : EarlyA P ops J o v a) (he : execOp a'.eval o = execOp a.eval o)
    (hw : Region.wanted o (yielded ops a'.tmps) = Region.wanted o (yielded ops a.tmps)) : EarlyA P ops J o v a' := by
  unfold EarlyA at *
  rw [he, hw]
  exact h
/-- is i to be done ahead of j -/
def anc (md : Region.Mode) (ops : Array Oper) : Nat → Nat → Nat → Bool
  | 0, _, _ => false
  | n + 1, i, j => match ops[j]? with
    | none => false
    | some o => o.after.toList.any fun e => Region.binds md e && (e.on == i || anc md ops n i e.on)
/-- what is done is done behind all that it waits for -/
def Closed (md : Region.Mode) (ops : Array Oper) (listed : Array Bool) : Prop := ∀ j o, ops[j]? = some o → listed.getD j true = true → ∀ e ∈ o.after.toList, Region.binds md e = true → listed.getD e.on false = true
theorem anc_open {listed : Array Bool} (hc : Closed md ops listed) {i : Nat} (hi : listed.getD i true = false) : ∀ n j, anc md ops n i j = true → ∃ o, ops[j]? = some o ∧ ∃ e ∈ o.after.toList, Region.binds md e = true ∧ listed.getD e.on false = false := by
  intro n
  induction n with
  | zero => intro j h; cases h
  | succ n ih =>
    intro j h
    unfold anc at h
    split at h
    · cases h
    · rename_i o ho
      rw [List.any_eq_true] at h
      obtain ⟨e, he, h⟩ := h
      rw [Bool.and_eq_true, Bool.or_eq_true] at h
      obtain ⟨hb, h⟩ := h
      refine ⟨o, ho, e, he, hb, ?_⟩
      have low : ∀ k, listed.getD k true = false → listed.getD k false = false := fun k hk => by
        rcases Nat.lt_or_ge k listed.size with h' | h'
        · simp [h'] at hk ⊢; exact hk
        · simp [Array.getElem?_eq_none h'] at hk
      rcases h with h | h
      · rw [beq_iff_eq.1 h]
        exact low i hi
      · obtain ⟨o', ho', e', he', hb', hl'⟩ := ih e.on h
        refine low _ ?_
        cases hq : listed.getD e.on true with
        | false => rfl
        | true =>
          have := hc e.on o' ho' hq e' he' hb'
          rw [this] at hl'
          cases hl'
theorem Closed.put {listed : Array Bool} (hc : Closed md ops listed) {j : Nat} (hj : j ∈ Region.ready md ops listed) : Closed md ops (listed.setIfInBounds j true) := by
  intro k o hk hl e he hb
  have up : ∀ q, listed.getD q false = true → (listed.setIfInBounds j true).getD q false = true := fun q hq => by
    by_cases hjq : j = q
    · subst hjq
      rcases Nat.lt_or_ge j listed.size with h' | h'
      · simp [h']
      · simp [Array.getElem?_eq_none h'] at hq
    · rw [getD_set_ne false hjq]; exact hq
  refine up _ ?_
  by_cases hjk : j = k
  · subst hjk
    obtain ⟨_, o', ho', hall⟩ := mem_ready.1 hj
    obtain rfl : o' = o := by rw [hk] at ho'; injection ho' with ho'; exact ho'.symm
    exact hall e (by simpa using he) hb
  · rw [getD_set_ne true hjk] at hl
    exact hc k o hk hl e he hb
theorem not_ready {listed : Array Bool} (hc : Closed md ops listed) {i j n : Nat} (hi : i ∈ Region.ready md ops listed) (h : anc md ops n i j = true) : j ∉ Region.ready md ops listed := by
  intro hj
  obtain ⟨o, ho, e, he, hb, hl⟩ := anc_open hc (mem_ready.1 hi).1 n j h
  obtain ⟨_, o', ho', hall⟩ := mem_ready.1 hj
  obtain rfl : o' = o := by rw [ho] at ho'; injection ho' with ho'; exact ho'.symm
  have := hall e (by simpa using he) hb
  rw [hl] at this
  cases this
inductive MidP (P : Program) (ops : Array Oper) (md : Region.Mode) (I : World → Prop) (cl : Nat) (T : Array Bool → Act → Prop) : Array Bool → Act → Prop
  | tail {listed : Array Bool} {a : Act} (h : T listed a) : MidP P ops md I cl T listed a
  | late {listed : Array Bool} {a : Act} (i : Nat) {o : Oper} {v : Value} (ho : ops[i]? = some o) (hf : Region.free md ops listed i = true) (hr : i ∈ Region.ready md ops listed) (hb : anc md ops ops.size i cl = true) (ha : LateA P ops I o v a)
      (h : MidP P ops md I cl T (listed.setIfInBounds i true) (a.put o.dst v)) : MidP P ops md I cl T listed a
/-- the writers, one after the other -/
def Tl (P : Program) (ops : Array Oper) (Q : Exit → Act → World → Prop) (md : Region.Mode) (I : World → Prop) (cl : Nat) : List Nat → Array Bool → Act → World → Prop
  | [], listed, a, w => Region.ready md ops listed = [] ∧ Q .normal a w
  | i :: r, listed, a, w => Region.ready md ops listed = [i] ∧ ∃ o, ops[i]? = some o ∧ o.guard = none ∧ o.wp P a w (fun a' w' => (∃ v, a' = a.put o.dst v) ∧ (r ≠ [] → I w') ∧ MidP P ops md I cl (fun l b => Tl P ops Q md I cl r l b w') (listed.setIfInBounds i true) a') NoQ
abbrev Mid (P : Program) (ops : Array Oper) (Q : Exit → Act → World → Prop) (md : Region.Mode) (I : World → Prop) (cl : Nat) (chain : List Nat) (w : World) : Array Bool → Act → Prop := MidP P ops md I cl (fun l b => Tl P ops Q md I cl chain l b w)
inductive Rd (P : Program) (ops : Array Oper) (Q : Exit → Act → World → Prop) (md : Region.Mode) (I J : World → Prop) (c0 cl : Nat) (chain : List Nat) : Array Bool → Act → Prop
  | tail {listed : Array Bool} {a : Act} (h : ∀ w, J w → Tl P ops Q md I cl chain listed a w) : Rd P ops Q md I J c0 cl chain listed a
  | late {listed : Array Bool} {a : Act} (i : Nat) {o : Oper} {v : Value} (hn : i ≠ c0) (ho : ops[i]? = some o) (hf : Region.free md ops listed i = true) (hr : i ∈ Region.ready md ops listed) (hb : anc md ops ops.size i cl = true) (ha : LateA P ops I o v a)
      (h : Rd P ops Q md I J c0 cl chain (listed.setIfInBounds i true) (a.put o.dst v)) : Rd P ops Q md I J c0 cl chain listed a
  | early {listed : Array Bool} {a : Act} (i : Nat) {o : Oper} {v : Value} (hn : i ≠ c0) (ho : ops[i]? = some o) (hf : Region.free md ops listed i = true) (hr : i ∈ Region.ready md ops listed) (hc : anc md ops ops.size i c0 = true) (ha : EarlyA P ops J o v a)
      (h : Rd P ops Q md I J c0 cl chain (listed.setIfInBounds i true) (a.put o.dst v)) : Rd P ops Q md I J c0 cl chain listed a
/-- what two operations that are ready at one time do not do to each other -/
theorem apart_ready (hsel : ∀ (j : Nat) (o : Oper) cs b, ops[j]? = some o → o.op ≠ .select cs b) {listed : Array Bool} {i j : Nat} {o oj : Oper} (ho : ops[i]? = some o) (hoj : ops[j]? = some oj) (hf : Region.free md ops listed i = true)
    (hr : i ∈ Region.ready md ops listed) (hj : j ∈ Region.ready md ops listed) (hji : j ≠ i) :
    (∀ (a : Act) (v : Value), execOp (a.put o.dst v).eval oj = execOp a.eval oj ∧ Region.wanted oj (yielded ops (a.put o.dst v).tmps) = Region.wanted oj (yielded ops a.tmps)) ∧
    (∀ (a : Act) (v : Value), execOp (a.put oj.dst v).eval o = execOp a.eval o ∧ Region.wanted o (yielded ops (a.put oj.dst v).tmps) = Region.wanted o (yielded ops a.tmps)) ∧
    ∀ (a : Act) (u v : Value), (a.put o.dst u).put oj.dst v = (a.put oj.dst v).put o.dst u := by
  obtain ⟨hjun, oj', hoj', hall⟩ := mem_ready.1 hj
  obtain rfl : oj' = oj := by rw [hoj] at hoj'; injection hoj' with hoj'; exact hoj'.symm
  have hnot : ∀ e ∈ oj'.after, Region.binds md e = true → e.on ≠ i := fun e he hb heq => by
    have h1 := hall e he hb
    have h0 := (mem_ready.1 hr).1
    rw [heq] at h1
    rcases Nat.lt_or_ge i listed.size with h' | h'
    · simp [h'] at h0 h1; rw [h0] at h1; cases h1
    · simp [Array.getElem?_eq_none h'] at h1
  obtain ⟨p1, p2, p3⟩ := Oper.apart_spec (Region.free_spec ho hf j oj' hoj hji hjun hnot)
  have si := fun c b => hsel i o c b ho
  have sj := fun c b => hsel j oj' c b hoj
  exact ⟨fun a v => ⟨execOp_put (ops := ops) oj' sj a o.dst v p1, wanted_put oj' a o.dst v p1⟩, fun a v => ⟨execOp_put (ops := ops) o si a oj'.dst v p3, wanted_put o a oj'.dst v p3⟩, fun a u v => Act.put_comm a _ _ p2⟩
theorem put_ne_defer {a : Act} {d : Deferred} {t t' : Option Tmp} {v u : Value} : { a with defers := d :: a.defers }.put t v ≠ a.put t' u := by
  intro h
  have h1 := congrArg (fun x : Act => x.defers.length) h
  cases t <;> cases t' <;> simp [Act.put] at h1
def StepM (P : Program) (ops : Array Oper) (Q : Exit → Act → World → Prop) (md : Region.Mode) (I : World → Prop) (cl : Nat) (chain : List Nat) (w : World) (j : Nat) (listed : Array Bool) (a : Act) : Prop :=
  ∃ o, ops[j]? = some o ∧ ((∃ v, LateA P ops I o v a ∧ Mid P ops Q md I cl chain w (listed.setIfInBounds j true) (a.put o.dst v)) ∨
    ∃ r, chain = j :: r ∧ o.guard = none ∧ o.wp P a w (fun a' w' => (∃ v, a' = a.put o.dst v) ∧ (r ≠ [] → I w') ∧ Mid P ops Q md I cl r w' (listed.setIfInBounds j true) a') NoQ)
theorem stepM (hsel : ∀ (j : Nat) (o : Oper) cs b, ops[j]? = some o → o.op ≠ .select cs b) {chain : List Nat} {w : World} {listed : Array Bool} {a : Act} (h : Mid P ops Q md I cl chain w listed a) :
    ∀ j, j ∈ Region.ready md ops listed → StepM P ops Q md I cl chain w j listed a := by
  induction h with
  | @tail listed a h =>
    intro j hj
    cases chain with
    | nil => rw [h.1] at hj; cases hj
    | cons i r =>
      obtain ⟨h1, o, h2, h3, h4⟩ := h
      rw [h1] at hj
      obtain rfl : j = i := by simpa using hj
      refine ⟨o, h2, Or.inr ⟨r, rfl, h3, ?_⟩⟩
      refine upon_turn (Q := NoQ) h4 (fun v w' hk => ⟨⟨v, rfl⟩, hk.2.1, hk.2.2⟩) (fun d w' hk => ?_)
      obtain ⟨⟨v, hv⟩, _⟩ := hk
      exact put_ne_defer hv
  | @late listed a i o v ho hf hr hb ha h ih =>
    intro j hj
    by_cases hji : j = i
    · subst hji
      exact ⟨o, ho, Or.inl ⟨v, ha, h⟩⟩
    · obtain ⟨oj, hoj, hk⟩ := ih j (ready_mono hj hji)
      obtain ⟨q1, q2, q3⟩ := apart_ready hsel ho hoj hf hr hj hji
      refine ⟨oj, hoj, ?_⟩
      rcases hk with ⟨u, ha1, hd1⟩ | ⟨r, hr1, hg, hw⟩
      · refine Or.inl ⟨u, ha1.same (q1 a v).1.symm (q1 a v).2.symm, ?_⟩
        refine .late i ho (free_mono hf) (ready_mono hr (Ne.symm hji)) hb (ha.same (q2 a u).1 (q2 a u).2) ?_
        rw [Array.setIfInBounds_comm _ _ (Ne.symm hji), q3] at hd1
        exact hd1
      · refine Or.inr ⟨r, hr1, hg, ?_⟩
        unfold Oper.wp at hw ⊢
        rw [(q1 a v).1] at hw
        refine upon_turn hw (fun u w' hk => ⟨⟨u, rfl⟩, hk.2.1, ?_⟩) (fun d w' hk => ?_)
        · refine .late i ho (free_mono hf) (ready_mono hr (Ne.symm hji)) hb (ha.same (q2 a u).1 (q2 a u).2) ?_
          have hd1 := hk.2.2
          rw [Array.setIfInBounds_comm _ _ (Ne.symm hji), q3] at hd1
          exact hd1
        · obtain ⟨⟨u, hu⟩, _⟩ := hk
          exact put_ne_defer hu
theorem Rd.mid {chain : List Nat} {listed : Array Bool} {a : Act} (h : Rd P ops Q md I J c0 cl chain listed a) : Closed md ops listed → c0 ∈ Region.ready md ops listed → ∀ w, J w → Mid P ops Q md I cl chain w listed a := by
  induction h with
  | tail h => intro _ _ w hw; exact .tail (h w hw)
  | late i hn ho hf hr hb ha h ih => intro hc h0 w hw; exact .late i ho hf hr hb ha (ih (hc.put hr) (ready_mono h0 (Ne.symm hn)) w hw)
  | early i hn ho hf hr hb ha h ih => intro hc h0 w hw; exact (not_ready hc hr hb h0).elim
theorem stepR (hsel : ∀ (j : Nat) (o : Oper) cs b, ops[j]? = some o → o.op ≠ .select cs b) {rest : List Nat} {listed : Array Bool} {a : Act} {w : World} (hw : J w) (h : Rd P ops Q md I J c0 cl (c0 :: rest) listed a) :
    ∀ j, j ∈ Region.ready md ops listed → j ≠ c0 → ∃ o, ops[j]? = some o ∧ ((∃ v, LateA P ops I o v a ∧ Rd P ops Q md I J c0 cl (c0 :: rest) (listed.setIfInBounds j true) (a.put o.dst v)) ∨
      ∃ v, EarlyA P ops J o v a ∧ Rd P ops Q md I J c0 cl (c0 :: rest) (listed.setIfInBounds j true) (a.put o.dst v)) := by
  induction h with
  | tail h =>
    intro j hj hn
    have h1 := (h w hw).1
    rw [h1] at hj
    exact (hn (by simpa using hj)).elim
  | @late listed a i o v hn0 ho hf hr hb ha h ih =>
    intro j hj hn
    by_cases hji : j = i
    · subst hji
      exact ⟨o, ho, Or.inl ⟨v, ha, h⟩⟩
    · obtain ⟨oj, hoj, hk⟩ := ih j (ready_mono hj hji) hn
      obtain ⟨q1, q2, q3⟩ := apart_ready hsel ho hoj hf hr hj hji
      refine ⟨oj, hoj, ?_⟩
      rcases hk with ⟨u, ha1, hd1⟩ | ⟨u, ha1, hd1⟩
      · refine Or.inl ⟨u, ha1.same (q1 a v).1.symm (q1 a v).2.symm, ?_⟩
        refine .late i hn0 ho (free_mono hf) (ready_mono hr (Ne.symm hji)) hb (ha.same (q2 a u).1 (q2 a u).2) ?_
        rw [Array.setIfInBounds_comm _ _ (Ne.symm hji), q3] at hd1
        exact hd1
      · refine Or.inr ⟨u, ha1.same (q1 a v).1.symm (q1 a v).2.symm, ?_⟩
        refine .late i hn0 ho (free_mono hf) (ready_mono hr (Ne.symm hji)) hb (ha.same (q2 a u).1 (q2 a u).2) ?_
        rw [Array.setIfInBounds_comm _ _ (Ne.symm hji), q3] at hd1
        exact hd1
  | @early listed a i o v hn0 ho hf hr hb ha h ih =>
    intro j hj hn
    by_cases hji : j = i
    · subst hji
      exact ⟨o, ho, Or.inr ⟨v, ha, h⟩⟩
    · obtain ⟨oj, hoj, hk⟩ := ih j (ready_mono hj hji) hn
      obtain ⟨q1, q2, q3⟩ := apart_ready hsel ho hoj hf hr hj hji
      refine ⟨oj, hoj, ?_⟩
      rcases hk with ⟨u, ha1, hd1⟩ | ⟨u, ha1, hd1⟩
      · refine Or.inl ⟨u, ha1.same (q1 a v).1.symm (q1 a v).2.symm, ?_⟩
        refine .early i hn0 ho (free_mono hf) (ready_mono hr (Ne.symm hji)) hb (ha.same (q2 a u).1 (q2 a u).2) ?_
        rw [Array.setIfInBounds_comm _ _ (Ne.symm hji), q3] at hd1
        exact hd1
      · refine Or.inr ⟨u, ha1.same (q1 a v).1.symm (q1 a v).2.symm, ?_⟩
        refine .early i hn0 ho (free_mono hf) (ready_mono hr (Ne.symm hji)) hb (ha.same (q2 a u).1 (q2 a u).2) ?_
        rw [Array.setIfInBounds_comm _ _ (Ne.symm hji), q3] at hd1
        exact hd1
theorem Mid.end_ {chain : List Nat} {w : World} {listed : Array Bool} {a : Act} (h : Mid P ops Q md I cl chain w listed a) (hr : Region.ready md ops listed = []) : Q .normal a w := by
  cases h with
  | tail h =>
    cases chain with
    | nil => exact h.2
    | cons i r => have h1 := h.1; rw [hr] at h1; cases h1
  | late i _ _ h2 => rw [hr] at h2; cases h2
theorem Rd.end_ {chain : List Nat} {w : World} {listed : Array Bool} {a : Act} (h : Rd P ops Q md I J c0 cl chain listed a) (hw : J w) (hr : Region.ready md ops listed = []) : Q .normal a w := by
  cases h with
  | tail h => exact Mid.end_ (cl := cl) (chain := chain) (w := w) (MidP.tail (h w hw)) hr
  | late i _ _ _ h2 => rw [hr] at h2; cases h2
  | early i _ _ _ h2 => rw [hr] at h2; cases h2
theorem not_done {listed : Array Bool} (hc : Closed md ops listed) {i j n : Nat} (hi : i ∈ Region.ready md ops listed) (h : anc md ops n i j = true) : listed.getD j true = false := by
  obtain ⟨o, ho, e, he, hb, hl⟩ := anc_open hc (mem_ready.1 hi).1 n j h
  cases hq : listed.getD j true with
  | false => rfl
  | true =>
    have := hc j o ho hq e he hb
    rw [hl] at this
    cases this
theorem Mid.over {w : World} {listed : Array Bool} {a : Act} (h : Mid P ops Q md I cl [] w listed a) (hc : Closed md ops listed) (hl : listed.getD cl true = true) : Region.ready md ops listed = [] ∧ Q .normal a w := by
  cases h with
  | tail h => exact h
  | late i ho hf hr hb ha h =>
    have := not_done hc hr hb
    rw [hl] at this
    cases this
theorem last_tail {i : Nat} {r : List Nat} (h : (i :: r).getLast? = some cl) : (r = [] → i = cl) ∧ (r ≠ [] → r.getLast? = some cl) := by
  cases r with
  | nil => exact ⟨fun _ => by simpa using h, fun h => absurd rfl h⟩
  | cons x r =>
    refine ⟨fun e => (by cases e), fun _ => ?_⟩
    rw [List.getLast?_cons_cons] at h
    exact h
theorem put_done (listed : Array Bool) (j : Nat) : (listed.setIfInBounds j true).getD j true = true := by
  rcases Nat.lt_or_ge j listed.size with h' | h'
  · simp [h']
  · simp [h']
theorem any_of_mid (hsel : ∀ (j : Nat) (o : Oper) cs b, ops[j]? = some o → o.op ≠ .select cs b) : ∀ (fuel : Nat) (listed : Array Bool) (chain : List Nat) (a : Act) (w : World), left ops listed ≤ fuel → Closed md ops listed → (chain ≠ [] → chain.getLast? = some cl) → (chain = [] → listed.getD cl true = true) → Mid P ops Q md I cl chain w listed a → (chain ≠ [] → I w) → wpAny P md ops Q fuel listed a w := by
  intro fuel
  induction fuel with
  | zero =>
    intro listed chain a w hl hc hcl hc0 h hw
    have hr := ready_nil (md := md) (show left ops listed = 0 by omega)
    exact ⟨hr, h.end_ hr⟩
  | succ fuel ih =>
    intro listed chain a w hl hc hcl hc0 h hw
    refine ⟨fun hr => h.end_ hr, fun j hj => ?_⟩
    by_cases hch : chain = []
    · subst hch
      have := (h.over hc (hc0 rfl)).1
      rw [this] at hj
      cases hj
    obtain ⟨o, ho, hk⟩ := stepM hsel h j hj
    have hu := (mem_ready.1 hj).1
    have hlt : j < ops.size := (Array.getElem?_eq_some_iff.1 ho).1
    have hl' : left ops (listed.setIfInBounds j true) ≤ fuel := by have := left_lt hlt hu; omega
    unfold wpOp
    simp only [ho]
    rcases hk with ⟨v, hact, hd⟩ | ⟨r, hr1, hg, hwp⟩
    · rcases hact with ⟨hwt, hrun⟩ | ⟨hwt, rfl⟩
      · rw [if_pos hwt]
        left
        unfold Oper.wp
        rw [hrun w (hw hch)]
        exact ih _ _ _ _ hl' (hc.put hj) hcl (fun e => absurd e hch) hd hw
      · rw [if_neg (by rw [hwt]; decide)]
        exact ih _ _ _ _ hl' (hc.put hj) hcl (fun e => absurd e hch) hd hw
    · subst hr1
      obtain ⟨t1, t2⟩ := last_tail (hcl hch)
      rw [if_pos (wanted_none hg _)]
      left
      refine upon_turn hwp (fun v w' hk => ih _ _ _ _ hl' (hc.put hj) t2 (fun e => by rw [← t1 e]; exact put_done _ _) hk.2.2 hk.2.1) (fun d w' hk => ?_)
      obtain ⟨⟨v, hv⟩, _⟩ := hk
      exact put_ne_defer hv
theorem any_of_rd (hsel : ∀ (j : Nat) (o : Oper) cs b, ops[j]? = some o → o.op ≠ .select cs b) (hJI : ∀ w, J w → I w) {rest : List Nat} (hlast : (c0 :: rest).getLast? = some cl) : ∀ (fuel : Nat) (listed : Array Bool) (a : Act) (w : World), left ops listed ≤ fuel → Closed md ops listed → Rd P ops Q md I J c0 cl (c0 :: rest) listed a → J w → wpAny P md ops Q fuel listed a w := by
  intro fuel
  induction fuel with
  | zero =>
    intro listed a w hl hc h hw
    have hr := ready_nil (md := md) (show left ops listed = 0 by omega)
    exact ⟨hr, h.end_ hw hr⟩
  | succ fuel ih =>
    intro listed a w hl hc h hw
    by_cases h0 : c0 ∈ Region.ready md ops listed
    · exact any_of_mid hsel _ _ _ _ _ hl hc (fun _ => hlast) (fun e => (by cases e)) (h.mid hc h0 w hw) (fun _ => hJI w hw)
    · refine ⟨fun hr => h.end_ hw hr, fun j hj => ?_⟩
      obtain ⟨o, ho, hk⟩ := stepR hsel hw h j hj (fun e => h0 (e ▸ hj))
      have hu := (mem_ready.1 hj).1
      have hlt : j < ops.size := (Array.getElem?_eq_some_iff.1 ho).1
      have hl' : left ops (listed.setIfInBounds j true) ≤ fuel := by have := left_lt hlt hu; omega
      unfold wpOp
      simp only [ho]
      rcases hk with ⟨v, hact, hd⟩ | ⟨v, hact, hd⟩
      · rcases hact with ⟨hwt, hrun⟩ | ⟨hwt, rfl⟩
        · rw [if_pos hwt]
          left
          unfold Oper.wp
          rw [hrun w (hJI w hw)]
          exact ih _ _ _ hl' (hc.put hj) hd hw
        · rw [if_neg (by rw [hwt]; decide)]
          exact ih _ _ _ hl' (hc.put hj) hd hw
      · rcases hact with ⟨hwt, hrun⟩ | ⟨hwt, rfl⟩
        · rw [if_pos hwt]
          left
          rcases hrun w hw with h1 | ⟨f, args, h1, h2⟩
          · unfold Oper.wp
            rw [h1]
            exact ih _ _ _ hl' (hc.put hj) hd hw
          · unfold Oper.wp
            rw [h1, Oper.upon_enter]
            refine h2.mono ?_
            rintro e w' ⟨rfl, hJ⟩
            exact ih _ _ _ hl' (hc.put hj) hd hJ
        · rw [if_neg (by rw [hwt]; decide)]
          exact ih _ _ _ hl' (hc.put hj) hd hw
theorem closed_none (n : Nat) : Closed md ops (Array.replicate n false) ∨ ∃ j, n ≤ j ∧ ∃ o, ops[j]? = some o := by
  by_cases h : ∃ j, n ≤ j ∧ ∃ o, ops[j]? = some o
  · exact Or.inr h
  · refine Or.inl fun j o ho hl => ?_
    have hj : j < n := Nat.lt_of_not_le fun hn => h ⟨j, hn, o, ho⟩
    simp [hj] at hl
/-- the beginning -/
theorem region_chain {id : Nat} {a : Act} {w : World} (I J : World → Prop) (c0 cl : Nat) (rest : List Nat) (hlast : (c0 :: rest).getLast? = some cl) (hm : P.follows .mixedOrders = true) (hs : Region.noSelect ops = true) (hJI : ∀ w, J w → I w) (hJ : J w.drew)
    (h : Rd P ops Q .any I J c0 cl (c0 :: rest) (Array.replicate ops.size false) a) : (Code.region id ops true).wp P Q a w := by
  refine wp_region_any hm (any_of_rd (Region.noSelect_spec hs) hJI hlast _ _ _ _ (by unfold left; exact Nat.le_trans (List.length_filter_le _ _) (by simp)) ?_ h hJ)
  rcases closed_none (md := .any) (ops := ops) ops.size with h | ⟨j, hj, o, ho⟩
  · exact h
  · have := (Array.getElem?_eq_some_iff.1 ho).1
    omega

/-! the moves -/
theorem Rd.read {chain : List Nat} {listed : Array Bool} {a : Act} (i : Nat) {o : Oper} {v : Value} (hn : i ≠ c0) (ho : ops[i]? = some o) (hf : Region.free md ops listed i = true) (hr : (Region.ready md ops listed).contains i = true) (hb : anc md ops ops.size i cl = true)
    (hw : Region.wanted o (yielded ops a.tmps) = true) (hy : ∀ w, I w → (execOp a.eval o).run P w = .ok (.value v) w)
    (h : Rd P ops Q md I J c0 cl chain (listed.setIfInBounds i true) (a.put o.dst v)) : Rd P ops Q md I J c0 cl chain listed a := .late i hn ho hf (of_contains hr) hb (Or.inl ⟨hw, hy⟩) h
theorem Rd.first {chain : List Nat} {listed : Array Bool} {a : Act} (i : Nat) {o : Oper} {v : Value} (hn : i ≠ c0) (ho : ops[i]? = some o) (hf : Region.free md ops listed i = true) (hr : (Region.ready md ops listed).contains i = true) (hb : anc md ops ops.size i c0 = true)
    (hw : Region.wanted o (yielded ops a.tmps) = true) (hy : ∀ w, J w → (execOp a.eval o).run P w = .ok (.value v) w)
    (h : Rd P ops Q md I J c0 cl chain (listed.setIfInBounds i true) (a.put o.dst v)) : Rd P ops Q md I J c0 cl chain listed a := .early i hn ho hf (of_contains hr) hb (Or.inl ⟨hw, fun w hJ => Or.inl (hy w hJ)⟩) h
theorem Rd.call {chain : List Nat} {listed : Array Bool} {a : Act} (i : Nat) {o : Oper} {v : Value} {f : FuncId} {args : Array Value} (hn : i ≠ c0) (ho : ops[i]? = some o) (hf : Region.free md ops listed i = true) (hr : (Region.ready md ops listed).contains i = true) (hb : anc md ops ops.size i c0 = true)
    (hw : Region.wanted o (yielded ops a.tmps) = true) (he : ∀ w, (execOp a.eval o).run P w = .ok (.enter f args) w) (hc : ∀ w, J w → Calls P f args w fun e w' => e = .returned v ∧ J w')
    (h : Rd P ops Q md I J c0 cl chain (listed.setIfInBounds i true) (a.put o.dst v)) : Rd P ops Q md I J c0 cl chain listed a := .early i hn ho hf (of_contains hr) hb (Or.inl ⟨hw, fun w hJ => Or.inr ⟨f, args, he w, hc w hJ⟩⟩) h
theorem Tl.write {r : List Nat} {listed : Array Bool} {a : Act} {w : World} {i : Nat} {o : Oper} (hr : Region.ready md ops listed = [i]) (ho : ops[i]? = some o) (hg : o.guard = none)
    (h : o.wp P a w (fun a' w' => (∃ v, a' = a.put o.dst v) ∧ (r ≠ [] → I w') ∧ MidP P ops md I cl (fun l b => Tl P ops Q md I cl r l b w') (listed.setIfInBounds i true) a') NoQ) : Tl P ops Q md I cl (i :: r) listed a w := ⟨hr, o, ho, hg, h⟩
theorem Mid.read {T : Array Bool → Act → Prop} {listed : Array Bool} {a : Act} (i : Nat) {o : Oper} {v : Value} (ho : ops[i]? = some o) (hf : Region.free md ops listed i = true) (hr : (Region.ready md ops listed).contains i = true) (hb : anc md ops ops.size i cl = true)
    (hw : Region.wanted o (yielded ops a.tmps) = true) (hy : ∀ w, I w → (execOp a.eval o).run P w = .ok (.value v) w)
    (h : MidP P ops md I cl T (listed.setIfInBounds i true) (a.put o.dst v)) : MidP P ops md I cl T listed a := .late i ho hf (of_contains hr) hb (Or.inl ⟨hw, hy⟩) h
theorem wp_run {o : Oper} {a : Act} {w w' : World} {K : Act → World → Prop} {Q : Exit → Act → World → Prop} (v : Value) (hr : (execOp a.eval o).run P w = .ok (.value v) w') (h : K (a.put o.dst v) w') : o.wp P a w K Q := by
  unfold Oper.wp
  rw [hr]
  exact h
theorem wp_pure {o : Oper} {a : Act} {w : World} {K : Act → World → Prop} {Q : Exit → Act → World → Prop} (v : Value) (hr : (execOp a.eval o).run P w = .ok (.value v) w) (h : K (a.put o.dst v) w) : o.wp P a w K Q := wp_run v hr h
theorem wp_enter {o : Oper} {a : Act} {w : World} {K : Act → World → Prop} {Q : Exit → Act → World → Prop} {f : FuncId} {args : Array Value} (hr : (execOp a.eval o).run P w = .ok (.enter f args) w) (h : Calls P f args w fun e w' => ∃ v, e = .returned v ∧ K (a.put o.dst v) w') : o.wp P a w K Q := by
  unfold Oper.wp
  rw [hr, Oper.upon_enter]
  refine h.mono ?_
  rintro e w' ⟨v, rfl, hk⟩
  exact hk
theorem Tl.done {listed : Array Bool} {a : Act} {w : World} (hr : Region.ready md ops listed = []) (h : Q .normal a w) : Tl P ops Q md I cl [] listed a w := ⟨hr, h⟩
/-! more than one writer ready at a time: each of them is gone into; what the reads lean on may change once: with the writer sw; reads may come behind the last writer, too -/
/-- before sw is done the operation yields v, and leaves the world; it must be done ahead of sw, or yields v behind it, too -/
def LateT (P : Program) (ops : Array Oper) (md : Region.Mode) (I : Bool → World → Prop) (sw i : Nat) (o : Oper) (v : Value) (a : Act) : Prop :=
  (Region.wanted o (yielded ops a.tmps) = true ∧ (∀ w, I false w → (execOp a.eval o).run P w = .ok (.value v) w) ∧ (anc md ops ops.size i sw = true ∨ ∀ w, I true w → (execOp a.eval o).run P w = .ok (.value v) w)) ∨ (Region.wanted o (yielded ops a.tmps) = false ∧ v = undef)
theorem LateT.same {I : Bool → World → Prop} {sw i : Nat} {o : Oper} {v : Value} {a a' : Act} (h : LateT P ops md I sw i o v a) (he : execOp a'.eval o = execOp a.eval o)
    (hw : Region.wanted o (yielded ops a'.tmps) = Region.wanted o (yielded ops a.tmps)) : LateT P ops md I sw i o v a' := by
  unfold LateT at *
  rw [he, hw]
  exact h
inductive MidT (P : Program) (ops : Array Oper) (md : Region.Mode) (I : Bool → World → Prop) (sw : Nat) (T : Array Bool → Act → Prop) : Array Bool → Act → Prop
  | tail {listed : Array Bool} {a : Act} (h : T listed a) : MidT P ops md I sw T listed a
  | late {listed : Array Bool} {a : Act} (i : Nat) {o : Oper} {v : Value} (ho : ops[i]? = some o) (hf : Region.free md ops listed i = true) (hr : i ∈ Region.ready md ops listed) (hs : i ≠ sw) (ha : LateT P ops md I sw i o v a)
      (h : MidT P ops md I sw T (listed.setIfInBounds i true) (a.put o.dst v)) : MidT P ops md I sw T listed a
def Tr (P : Program) (ops : Array Oper) (Q : Exit → Act → World → Prop) (md : Region.Mode) (I : Bool → World → Prop) (sw : Nat) : Nat → Array Bool → Act → World → Prop
  | 0, listed, a, w => Region.ready md ops listed = [] ∧ Q .normal a w
  | n + 1, listed, a, w => Region.ready md ops listed ≠ [] ∧ ∀ i ∈ Region.ready md ops listed, ∃ o, ops[i]? = some o ∧ o.guard = none ∧
      o.wp P a w (fun a' w' => (∃ v, a' = a.put o.dst v) ∧ I ((listed.setIfInBounds i true).getD sw true) w' ∧ MidT P ops md I sw (fun l b => Tr P ops Q md I sw n l b w') (listed.setIfInBounds i true) a') NoQ
def StepT (P : Program) (ops : Array Oper) (Q : Exit → Act → World → Prop) (md : Region.Mode) (I : Bool → World → Prop) (sw n : Nat) (w : World) (j : Nat) (listed : Array Bool) (a : Act) : Prop :=
  ∃ o, ops[j]? = some o ∧ ((∃ v, (j ≠ sw ∧ LateT P ops md I sw j o v a) ∧ MidT P ops md I sw (fun l b => Tr P ops Q md I sw n l b w) (listed.setIfInBounds j true) (a.put o.dst v)) ∨
    ∃ m, n = m + 1 ∧ o.guard = none ∧ o.wp P a w (fun a' w' => (∃ v, a' = a.put o.dst v) ∧ I ((listed.setIfInBounds j true).getD sw true) w' ∧ MidT P ops md I sw (fun l b => Tr P ops Q md I sw m l b w') (listed.setIfInBounds j true) a') NoQ)
section
variable {I : Bool → World → Prop} {sw : Nat}
theorem stepT (hsel : ∀ (j : Nat) (o : Oper) cs b, ops[j]? = some o → o.op ≠ .select cs b) {n : Nat} {w : World} {listed : Array Bool} {a : Act} (h : MidT P ops md I sw (fun l b => Tr P ops Q md I sw n l b w) listed a) :
    ∀ j, j ∈ Region.ready md ops listed → StepT P ops Q md I sw n w j listed a := by
  induction h with
  | @tail listed a h =>
    intro j hj
    cases n with
    | zero => rw [h.1] at hj; cases hj
    | succ m =>
      obtain ⟨o, h2, h3, h4⟩ := h.2 j hj
      exact ⟨o, h2, Or.inr ⟨m, rfl, h3, h4⟩⟩
  | @late listed a i o v ho hf hr hs ha h ih =>
    intro j hj
    by_cases hji : j = i
    · subst hji
      exact ⟨o, ho, Or.inl ⟨v, ⟨hs, ha⟩, h⟩⟩
    · obtain ⟨oj, hoj, hk⟩ := ih j (ready_mono hj hji)
      obtain ⟨q1, q2, q3⟩ := apart_ready hsel ho hoj hf hr hj hji
      refine ⟨oj, hoj, ?_⟩
      rcases hk with ⟨u, ha1, hd1⟩ | ⟨m, hm, hg, hw⟩
      · refine Or.inl ⟨u, ⟨ha1.1, ha1.2.same (q1 a v).1.symm (q1 a v).2.symm⟩, ?_⟩
        refine .late i ho (free_mono hf) (ready_mono hr (Ne.symm hji)) hs (ha.same (q2 a u).1 (q2 a u).2) ?_
        rw [Array.setIfInBounds_comm _ _ (Ne.symm hji), q3] at hd1
        exact hd1
      · refine Or.inr ⟨m, hm, hg, ?_⟩
        unfold Oper.wp at hw ⊢
        rw [(q1 a v).1] at hw
        refine upon_turn hw (fun u w' hk => ⟨⟨u, rfl⟩, by
            have := hk.2.1
            rw [Array.setIfInBounds_comm _ _ (Ne.symm hji), getD_set_ne true hs] at this
            exact this, ?_⟩) (fun d w' hk => ?_)
        · refine .late i ho (free_mono hf) (ready_mono hr (Ne.symm hji)) hs (ha.same (q2 a u).1 (q2 a u).2) ?_
          have hd1 := hk.2.2
          rw [Array.setIfInBounds_comm _ _ (Ne.symm hji), q3] at hd1
          exact hd1
        · obtain ⟨⟨u, hu⟩, _⟩ := hk
          exact put_ne_defer hu
theorem tree_end {n : Nat} {w : World} {listed : Array Bool} {a : Act} (h : MidT P ops md I sw (fun l b => Tr P ops Q md I sw n l b w) listed a) (hr : Region.ready md ops listed = []) : Q .normal a w := by
  cases h with
  | tail h =>
    cases n with
    | zero => exact h.2
    | succ m => exact (h.1 hr).elim
  | late i _ _ h2 => rw [hr] at h2; cases h2
theorem any_of_tree (hsel : ∀ (j : Nat) (o : Oper) cs b, ops[j]? = some o → o.op ≠ .select cs b) : ∀ (fuel : Nat) (listed : Array Bool) (n : Nat) (a : Act) (w : World), left ops listed ≤ fuel → Closed md ops listed → MidT P ops md I sw (fun l b => Tr P ops Q md I sw n l b w) listed a → I (listed.getD sw true) w → wpAny P md ops Q fuel listed a w := by
  intro fuel
  induction fuel with
  | zero =>
    intro listed n a w hl hc h hw
    have hr := ready_nil (md := md) (show left ops listed = 0 by omega)
    exact ⟨hr, tree_end h hr⟩
  | succ fuel ih =>
    intro listed n a w hl hc h hw
    refine ⟨fun hr => tree_end h hr, fun j hj => ?_⟩
    obtain ⟨o, ho, hk⟩ := stepT hsel h j hj
    have hu := (mem_ready.1 hj).1
    have hlt : j < ops.size := (Array.getElem?_eq_some_iff.1 ho).1
    have hl' : left ops (listed.setIfInBounds j true) ≤ fuel := by have := left_lt hlt hu; omega
    unfold wpOp
    simp only [ho]
    rcases hk with ⟨v, hact, hd⟩ | ⟨m, hm, hg, hwp⟩
    · obtain ⟨hjs, hact⟩ := hact
      have hw' : I ((listed.setIfInBounds j true).getD sw true) w := by
        rw [getD_set_ne true hjs]
        exact hw
      rcases hact with ⟨hwt, hrun0, hrun1⟩ | ⟨hwt, rfl⟩
      · rw [if_pos hwt]
        left
        have hrun : (execOp a.eval o).run P w = .ok (.value v) w := by
          have hi := hw
          cases hsw : listed.getD sw true with
          | false => rw [hsw] at hi; exact hrun0 w hi
          | true =>
            rcases hrun1 with h1 | h1
            · have := not_done hc hj h1
              rw [hsw] at this
              cases this
            · rw [hsw] at hi; exact h1 w hi
        unfold Oper.wp
        rw [hrun]
        exact ih _ _ _ _ hl' (hc.put hj) hd hw'
      · rw [if_neg (by rw [hwt]; decide)]
        exact ih _ _ _ _ hl' (hc.put hj) hd hw'
    · rw [if_pos (wanted_none hg _)]
      left
      refine upon_turn hwp (fun v w' hk => ih _ _ _ _ hl' (hc.put hj) hk.2.2 hk.2.1) (fun d w' hk => ?_)
      obtain ⟨⟨v, hv⟩, _⟩ := hk
      exact put_ne_defer hv
/-- the beginning -/
theorem region_tree {id : Nat} {a : Act} {w : World} (I : Bool → World → Prop) (sw n : Nat) (hm : P.follows .mixedOrders = true) (hs : Region.noSelect ops = true) (hsw : sw < ops.size) (hI : I false w.drew)
    (h : MidT P ops .any I sw (fun l b => Tr P ops Q .any I sw n l b w.drew) (Array.replicate ops.size false) a) : (Code.region id ops true).wp P Q a w := by
  refine wp_region_any hm (any_of_tree (Region.noSelect_spec hs) _ _ _ _ _ (by unfold left; exact Nat.le_trans (List.length_filter_le _ _) (by simp)) ?_ h (by
    have : (Array.replicate ops.size false).getD sw true = false := by simp [hsw]
    rw [this]
    exact hI))
  rcases closed_none (md := .any) (ops := ops) ops.size with h | ⟨j, hj, o, ho⟩
  · exact h
  · have := (Array.getElem?_eq_some_iff.1 ho).1
    omega
/-- one writer is ready -/
theorem Tr.one {n : Nat} {listed : Array Bool} {a : Act} {w : World} {i : Nat} {o : Oper} (hr : Region.ready md ops listed = [i]) (ho : ops[i]? = some o) (hg : o.guard = none)
    (h : o.wp P a w (fun a' w' => (∃ v, a' = a.put o.dst v) ∧ I ((listed.setIfInBounds i true).getD sw true) w' ∧ MidT P ops md I sw (fun l b => Tr P ops Q md I sw n l b w') (listed.setIfInBounds i true) a') NoQ) : Tr P ops Q md I sw (n + 1) listed a w :=
  ⟨by rw [hr]; simp, fun j hj => by
    rw [hr] at hj
    obtain rfl : j = i := by simpa using hj
    exact ⟨o, ho, hg, h⟩⟩
/-- two are -/
theorem Tr.two {n : Nat} {listed : Array Bool} {a : Act} {w : World} {i j : Nat} {o p : Oper} (hr : Region.ready md ops listed = [i, j]) (ho : ops[i]? = some o) (hg : o.guard = none) (hp : ops[j]? = some p) (hg' : p.guard = none)
    (h : o.wp P a w (fun a' w' => (∃ v, a' = a.put o.dst v) ∧ I ((listed.setIfInBounds i true).getD sw true) w' ∧ MidT P ops md I sw (fun l b => Tr P ops Q md I sw n l b w') (listed.setIfInBounds i true) a') NoQ)
    (h' : p.wp P a w (fun a' w' => (∃ v, a' = a.put p.dst v) ∧ I ((listed.setIfInBounds j true).getD sw true) w' ∧ MidT P ops md I sw (fun l b => Tr P ops Q md I sw n l b w') (listed.setIfInBounds j true) a') NoQ) : Tr P ops Q md I sw (n + 1) listed a w :=
  ⟨by rw [hr]; simp, fun k hk => by
    rw [hr] at hk
    rcases List.mem_cons.1 hk with rfl | hk
    · exact ⟨o, ho, hg, h⟩
    · obtain rfl : k = j := by simpa using hk
      exact ⟨p, hp, hg', h'⟩⟩
theorem MidT.read {T : Array Bool → Act → Prop} {listed : Array Bool} {a : Act} (i : Nat) {o : Oper} {v : Value} (hs : i ≠ sw) (ho : ops[i]? = some o) (hf : Region.free md ops listed i = true) (hr : (Region.ready md ops listed).contains i = true)
    (hw : Region.wanted o (yielded ops a.tmps) = true) (h1 : anc md ops ops.size i sw = true) (hy : ∀ w, I false w → (execOp a.eval o).run P w = .ok (.value v) w)
    (h : MidT P ops md I sw T (listed.setIfInBounds i true) (a.put o.dst v)) : MidT P ops md I sw T listed a := .late i ho hf (of_contains hr) hs (Or.inl ⟨hw, hy, Or.inl h1⟩) h
theorem MidT.read2 {T : Array Bool → Act → Prop} {listed : Array Bool} {a : Act} (i : Nat) {o : Oper} {v : Value} (hs : i ≠ sw) (ho : ops[i]? = some o) (hf : Region.free md ops listed i = true) (hr : (Region.ready md ops listed).contains i = true)
    (hw : Region.wanted o (yielded ops a.tmps) = true) (hy : ∀ b w, I b w → (execOp a.eval o).run P w = .ok (.value v) w)
    (h : MidT P ops md I sw T (listed.setIfInBounds i true) (a.put o.dst v)) : MidT P ops md I sw T listed a := .late i ho hf (of_contains hr) hs (Or.inl ⟨hw, hy false, Or.inr (hy true)⟩) h
theorem Tr.done {listed : Array Bool} {a : Act} {w : World} (hr : Region.ready md ops listed = []) (h : Q .normal a w) : Tr P ops Q md I sw 0 listed a w := ⟨hr, h⟩
end
end
end De
end Go.Proofs.YtbgakdpbglpfaaaGreatDoor
