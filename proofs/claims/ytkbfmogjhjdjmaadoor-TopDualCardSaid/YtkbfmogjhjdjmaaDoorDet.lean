/- A region that draws its order, walked in ONE order: first what reads, and the calls that only make memory; then new variables and the one store into each. No program in sight. -/
import Derived.Test.YtkbfmogjhjdjmaaDoorKit
import Derived.Deep.RegionHeld3
namespace Go.Proofs.YtkbfmogjhjdjmaaDoor
open Go.RowKit
namespace De
section
variable {P : Program} {ops : Array Oper} {Q : Exit → Act → World → Prop} {md : Region.Mode} {w0 : World}
/-- in every world that grew out of w0 the operation yields v; the world grows only -/
def Acts (P : Program) (ops : Array Oper) (w0 : World) (o : Oper) (v : Value) (a : Act) : Prop :=
  (Region.wanted o (yielded ops a.tmps) = true ∧ ∀ w, Below w0.heap.size w0 w →
    (execOp a.eval o).run P w = .ok (.value v) w ∨ ∃ f args, (execOp a.eval o).run P w = .ok (.enter f args) w ∧ Calls P f args w fun e w' => e = .returned v ∧ Below w.heap.size w w') ∨
  (Region.wanted o (yielded ops a.tmps) = false ∧ v = undef)
theorem Acts.pure {o : Oper} {v : Value} {a : Act} (hw : Region.wanted o (yielded ops a.tmps) = true) (h : ∀ w, Below w0.heap.size w0 w → (execOp a.eval o).run P w = .ok (.value v) w) : Acts P ops w0 o v a :=
  Or.inl ⟨hw, fun w hb => Or.inl (h w hb)⟩
theorem Acts.call {o : Oper} {v : Value} {a : Act} (f : FuncId) (args : Array Value) (hw : Region.wanted o (yielded ops a.tmps) = true) (hr : ∀ w, (execOp a.eval o).run P w = .ok (.enter f args) w)
    (h : ∀ w, Below w0.heap.size w0 w → Calls P f args w fun e w' => e = .returned v ∧ Below w.heap.size w w') : Acts P ops w0 o v a :=
  Or.inl ⟨hw, fun w hb => Or.inr ⟨f, args, hr w, h w hb⟩⟩
theorem Acts.not {o : Oper} {a : Act} (hw : Region.wanted o (yielded ops a.tmps) = false) : Acts P ops w0 o undef a := Or.inr ⟨hw, rfl⟩
theorem Acts.same {o : Oper} {v : Value} {a a' : Act} (h : Acts P ops w0 o v a) (he : execOp a'.eval o = execOp a.eval o)
    (hw : Region.wanted o (yielded ops a'.tmps) = Region.wanted o (yielded ops a.tmps)) : Acts P ops w0 o v a' := by
  unfold Acts at *
  rw [he, hw]
  exact h

/-- the blocks that the region has made: whether it has stored into one, and what it holds -/
abbrev Own := Nat → Option (Bool × TypeId × Array Value)
def Own.put (O : Own) (g : Nat) (x : Bool × TypeId × Array Value) : Own := fun k => if k = g then some x else O k
theorem Own.put_self (O : Own) (g : Nat) (x) : O.put g x g = some x := by simp [Own.put]
theorem Own.put_ne (O : Own) {g k : Nat} (x) (h : k ≠ g) : O.put g x k = O k := by simp [Own.put, h]
theorem Own.of_none {O : Own} {g k : Nat} {x} (h : O.put g x k = none) : k ≠ g ∧ O k = none := by
  by_cases e : k = g
  · subst e; rw [Own.put_self] at h; cases h
  · exact ⟨e, by rw [Own.put_ne _ _ e] at h; exact h⟩
theorem Own.put_comm (O : Own) {g k : Nat} (x y) (h : k ≠ g) : (O.put g x).put k y = (O.put k y).put g x := by
  funext i
  unfold Own.put
  by_cases h1 : i = g <;> by_cases h2 : i = k <;> simp [h1, h2]
  · exact absurd (h2.symm.trans h1) h
  · intro e; exact absurd e.symm h
  · intro e; exact absurd e h
def InO (w0 : World) (O : Own) (w : World) : Prop := Below w0.heap.size w0 w ∧ ∀ g b t cs, O g = some (b, t, cs) → w0.heap.size ≤ g ∧ Blk w g t cs
def cellsOf : Value → Array Value
  | .agg cs => cs
  | v => #[v]
def Allocs (P : Program) (a : Act) (o : Oper) (ty : TypeId) (z : Array Value) : Prop :=
  o.guard = none ∧ o.op = .alloc ty ∧ ∀ w, (execOp a.eval o).run P w = .ok (.value (.pointer (some ⟨w.heap.size, 0, none⟩))) (w.alloc (.cells z ty))
def Stores (P : Program) (a : Act) (o : Oper) (g : Nat) (t : TypeId) (cs cs' : Array Value) : Prop :=
  o.guard = none ∧ ∃ ty x y, o.op = .store ty x y ∧ a.eval x = .pointer (some ⟨g, 0, none⟩) ∧ cs' = cellsOf (a.eval y) ∧
    ∀ w, Blk w g t cs → ∃ w', (execOp a.eval o).run P w = .ok .skip w' ∧ Blk w' g t cs' ∧ w.grownBy w' (some g)
theorem eval_of_op {o : Oper} {a : Act} {d : Option Tmp} {v : Value} {x : Operand} (hx : x ∈ o.op.operands) (h : ∀ e, d = some e → e ∉ o.looksAt ops) : (a.put d v).eval x = a.eval x :=
  Act.eval_put fun e he hxe => h e he (by subst hxe; exact List.mem_append_left _ (List.mem_filterMap.2 ⟨.tmp e, by simpa using hx, rfl⟩))
theorem Allocs.same {o : Oper} {a a' : Act} {ty : TypeId} {z : Array Value} (h : Allocs P a o ty z) (he : execOp a'.eval o = execOp a.eval o) : Allocs P a' o ty z := by
  obtain ⟨h1, h2, h3⟩ := h
  exact ⟨h1, h2, fun w => by rw [he]; exact h3 w⟩
theorem Allocs.agree {o : Oper} {a : Act} {ty ty' : TypeId} {z z' : Array Value} (h : Allocs P a o ty z) (h' : Allocs P a o ty' z') : ty' = ty ∧ z' = z := by
  obtain ⟨_, h2, h3⟩ := h
  obtain ⟨_, k2, k3⟩ := h'
  have e : ty' = ty := by rw [h2] at k2; injection k2 with k2; exact k2.symm
  subst e
  refine ⟨rfl, ?_⟩
  have hw := (h3 default).symm.trans (k3 default)
  injection hw with _ hw
  have hh : (World.alloc (default : World) (.cells z ty')).heap[(default : World).heap.size]? = (World.alloc (default : World) (.cells z' ty')).heap[(default : World).heap.size]? := by rw [hw]
  rw [heap_alloc_new, heap_alloc_new] at hh
  injection hh with hh
  injection hh with hh
  exact hh.symm
theorem Stores.put {o : Oper} {a : Act} {g : Nat} {t : TypeId} {cs cs' : Array Value} {d : Option Tmp} {v : Value} (hs : ∀ c b, o.op ≠ .select c b) (h : ∀ e, d = some e → e ∉ o.looksAt ops) :
    Stores P (a.put d v) o g t cs cs' ↔ Stores P a o g t cs cs' := by
  have he := execOp_put (ops := ops) o hs a d v h
  constructor
  · rintro ⟨h1, ty, x, y, h2, h3, h4, h5⟩
    have ex := eval_of_op (ops := ops) (a := a) (v := v) (o := o) (x := x) (by rw [h2]; simp [Op.operands]) h
    have ey := eval_of_op (ops := ops) (a := a) (v := v) (o := o) (x := y) (by rw [h2]; simp [Op.operands]) h
    exact ⟨h1, ty, x, y, h2, ex ▸ h3, ey ▸ h4, fun w hw => by rw [← he]; exact h5 w hw⟩
  · rintro ⟨h1, ty, x, y, h2, h3, h4, h5⟩
    have ex := eval_of_op (ops := ops) (a := a) (v := v) (o := o) (x := x) (by rw [h2]; simp [Op.operands]) h
    have ey := eval_of_op (ops := ops) (a := a) (v := v) (o := o) (x := y) (by rw [h2]; simp [Op.operands]) h
    exact ⟨h1, ty, x, y, h2, ex ▸ h3, ey ▸ h4, fun w hw => by rw [he]; exact h5 w hw⟩
theorem Stores.agree {o : Oper} {a : Act} {g g' : Nat} {t t' : TypeId} {cs cs' ds ds' : Array Value} (h : Stores P a o g t cs cs') (h' : Stores P a o g' t' ds ds') : g' = g ∧ ds' = cs' := by
  obtain ⟨_, ty, x, y, h2, h3, h4, _⟩ := h
  obtain ⟨_, ty', x', y', k2, k3, k4, _⟩ := h'
  rw [h2] at k2
  injection k2 with e1 e2 e3
  subst e2 e3
  rw [h3] at k3
  injection k3 with k3
  injection k3 with k3
  injection k3 with k3
  exact ⟨k3.symm, k4.trans h4.symm⟩
theorem Allocs.no_store {o : Oper} {a a' : Act} {ty t : TypeId} {z cs cs' : Array Value} {g : Nat} (h : Allocs P a o ty z) (h' : Stores P a' o g t cs cs') : False := by
  obtain ⟨_, h2, _⟩ := h
  obtain ⟨_, _, _, _, k2, _⟩ := h'
  rw [h2] at k2
  cases k2
theorem free_mono {i j : Nat} {listed : Array Bool} (h : Region.free md ops listed i = true) : Region.free md ops (listed.setIfInBounds j true) i = true := by
  unfold Region.free at *
  split at h
  · cases h
  · rename_i oi hoi
    rw [List.all_eq_true] at h ⊢
    intro k hk
    have := h k hk
    by_cases hjk : j = k
    · subst hjk
      have hl : (listed.setIfInBounds j true).getD j true = true := by
        by_cases hlt : j < listed.size
        · simp [hlt]
        · simp [hlt]
      rw [hl]
      simp
    · rw [getD_set_ne true hjk]
      exact this

inductive Det2 (P : Program) (ops : Array Oper) (Q : Exit → Act → World → Prop) (md : Region.Mode) (w0 : World) : Array Bool → Own → Act → Prop
  | done {listed : Array Bool} {O : Own} {a : Act} (hr : Region.ready md ops listed = []) (h : ∀ w, InO w0 O w → Q .normal a w) : Det2 P ops Q md w0 listed O a
  | alloc {listed : Array Bool} {O : Own} {a : Act} (i : Nat) {o : Oper} {ty : TypeId} {z : Array Value} (ho : ops[i]? = some o) (hf : Region.free md ops listed i = true) (hr : i ∈ Region.ready md ops listed) (ha : Allocs P a o ty z)
      (h : ∀ g, O g = none → Det2 P ops Q md w0 (listed.setIfInBounds i true) (O.put g (false, ty, z)) (a.put o.dst (.pointer (some ⟨g, 0, none⟩)))) : Det2 P ops Q md w0 listed O a
  | store {listed : Array Bool} {O : Own} {a : Act} (i : Nat) {o : Oper} {g : Nat} {t : TypeId} {cs cs' : Array Value} (ho : ops[i]? = some o) (hf : Region.free md ops listed i = true) (hr : i ∈ Region.ready md ops listed) (hg : O g = some (false, t, cs)) (ha : Stores P a o g t cs cs')
      (h : Det2 P ops Q md w0 (listed.setIfInBounds i true) (O.put g (true, t, cs')) (a.put o.dst undef)) : Det2 P ops Q md w0 listed O a

def Step2 (P : Program) (ops : Array Oper) (Q : Exit → Act → World → Prop) (md : Region.Mode) (w0 : World) (j : Nat) (listed : Array Bool) (O : Own) (a : Act) : Prop :=
  ∃ o, ops[j]? = some o ∧
    ((∃ ty z, Allocs P a o ty z ∧ ∀ g, O g = none → Det2 P ops Q md w0 (listed.setIfInBounds j true) (O.put g (false, ty, z)) (a.put o.dst (.pointer (some ⟨g, 0, none⟩)))) ∨
     (∃ g t cs cs', O g = some (false, t, cs) ∧ Stores P a o g t cs cs' ∧ Det2 P ops Q md w0 (listed.setIfInBounds j true) (O.put g (true, t, cs')) (a.put o.dst undef)))

theorem step2 (hsel : ∀ (j : Nat) (o : Oper) cs b, ops[j]? = some o → o.op ≠ .select cs b) {listed : Array Bool} {O : Own} {a : Act} (h : Det2 P ops Q md w0 listed O a) : (∃ N, ∀ g, N ≤ g → O g = none) →
    ∀ j, j ∈ Region.ready md ops listed → Step2 P ops Q md w0 j listed O a := by
  induction h with
  | done hr _ =>
    intro _ j hj
    rw [hr] at hj
    cases hj
  | @alloc listed O a i o ty z ho hf hr ha h ih =>
    rintro ⟨N, hN⟩ j hj
    by_cases hji : j = i
    · subst hji
      exact ⟨o, ho, Or.inl ⟨ty, z, ha, h⟩⟩
    · have hj' := ready_mono hj hji
      have fin : ∀ g, ∃ N, ∀ k, N ≤ k → (O.put g (false, ty, z)) k = none := fun g => ⟨max N (g + 1), fun k hk => by rw [Own.put_ne _ _ (by omega)]; exact hN k (by omega)⟩
      obtain ⟨hjun, oj, hoj, hall⟩ := mem_ready.1 hj
      have hnot : ∀ e ∈ oj.after, Region.binds md e = true → e.on ≠ i := fun e he hb heq => by
        have h1 := hall e he hb
        have h0 := (mem_ready.1 hr).1
        rw [heq] at h1
        rcases Nat.lt_or_ge i listed.size with h' | h'
        · simp [h'] at h0 h1; rw [h0] at h1; cases h1
        · simp [Array.getElem?_eq_none h'] at h1
      obtain ⟨p1, p2, p3⟩ := Oper.apart_spec (Region.free_spec ho hf j oj hoj hji hjun hnot)
      have si := fun c b => hsel i o c b ho
      have sj := fun c b => hsel j oj c b hoj
      have back : ∀ u : Value, Allocs P (a.put oj.dst u) o ty z := fun u => ha.same (execOp_put (ops := ops) o si a oj.dst u p3)
      refine ⟨oj, hoj, ?_⟩
      obtain ⟨o1, ho1, hk⟩ := ih N (hN N (Nat.le_refl _)) (fin N) j hj'
      obtain rfl : o1 = oj := by rw [hoj] at ho1; injection ho1 with ho1; exact ho1.symm
      have fwd : ∀ g, execOp (a.put o.dst (.pointer (some ⟨g, 0, none⟩))).eval o1 = execOp a.eval o1 := fun g => execOp_put (ops := ops) o1 sj a o.dst _ p1
      rcases hk with ⟨ty1, z1, ha1, _⟩ | ⟨g1, t1, cs1, cs1', hg1, hs1, _⟩
      · have ha1' : Allocs P a o1 ty1 z1 := ha1.same (fwd N).symm
        refine Or.inl ⟨ty1, z1, ha1', fun g' hg' => ?_⟩
        refine .alloc i ho (free_mono hf) (ready_mono hr (Ne.symm hji)) (back _) fun g hg => ?_
        have hne : g ≠ g' := by
          rintro rfl
          rw [Own.put_self] at hg
          cases hg
        rw [Own.put_ne _ _ hne] at hg
        obtain ⟨o2, ho2, hk2⟩ := ih g hg (fin g) j hj'
        obtain rfl : o2 = o1 := by rw [hoj] at ho2; injection ho2 with ho2; exact ho2.symm
        rcases hk2 with ⟨ty2, z2, ha2, hd2⟩ | ⟨g2, t2, cs2, cs2', hg2, hs2, _⟩
        · obtain ⟨rfl, rfl⟩ := ha1'.agree (ha2.same (fwd g).symm)
          have hd := hd2 g' (by rw [Own.put_ne _ _ (Ne.symm hne)]; exact hg')
          rw [Own.put_comm _ _ _ (Ne.symm hne), Array.setIfInBounds_comm _ _ (Ne.symm hji), Act.put_comm a _ _ p2] at hd
          exact hd
        · exact (ha1'.no_store hs2).elim
      · have hs1' : Stores P a o1 g1 t1 cs1 cs1' := (Stores.put (ops := ops) sj p1).1 hs1
        have hgN : g1 ≠ N := by
          rintro rfl
          -- another new block would serve as well: then the store would go to another one
          obtain ⟨o2, ho2, hk2⟩ := ih (g1 + 1) (hN _ (by omega)) (fin _) j hj'
          obtain rfl : o2 = o1 := by rw [hoj] at ho2; injection ho2 with ho2; exact ho2.symm
          rcases hk2 with ⟨_, _, ha2, _⟩ | ⟨g2, t2, cs2, cs2', hg2, hs2, _⟩
          · exact ha2.no_store hs1
          · obtain ⟨rfl, _⟩ := hs1'.agree ((Stores.put (ops := ops) sj p1).1 hs2)
            rw [Own.put_ne _ _ (by omega), hN _ (Nat.le_refl _)] at hg2
            cases hg2
        have hg1' := hg1
        rw [Own.put_ne _ _ hgN] at hg1'
        refine Or.inr ⟨g1, t1, cs1, cs1', hg1', hs1', ?_⟩
        refine .alloc i ho (free_mono hf) (ready_mono hr (Ne.symm hji)) (back _) fun g hg => ?_
        have hne : g ≠ g1 := by
          rintro rfl
          rw [Own.put_self] at hg
          cases hg
        rw [Own.put_ne _ _ hne] at hg
        obtain ⟨o2, ho2, hk2⟩ := ih g hg (fin g) j hj'
        obtain rfl : o2 = o1 := by rw [hoj] at ho2; injection ho2 with ho2; exact ho2.symm
        rcases hk2 with ⟨_, _, ha2, _⟩ | ⟨g2, t2, cs2, cs2', hg2, hs2, hd2⟩
        · exact (ha2.no_store hs1).elim
        · obtain ⟨rfl, rfl⟩ := hs1'.agree ((Stores.put (ops := ops) sj p1).1 hs2)
          rw [Own.put_ne _ _ (Ne.symm hne), hg1'] at hg2
          injection hg2 with hg2
          injection hg2 with _ hg2
          injection hg2 with e1 e2
          subst e1 e2
          rw [Own.put_comm _ _ _ (Ne.symm hne), Array.setIfInBounds_comm _ _ (Ne.symm hji), Act.put_comm a _ _ p2] at hd2
          exact hd2
  | @store listed O a i o g t cs cs' ho hf hr hg ha h ih =>
    rintro ⟨N, hN⟩ j hj
    by_cases hji : j = i
    · subst hji
      exact ⟨o, ho, Or.inr ⟨g, t, cs, cs', hg, ha, h⟩⟩
    · have hj' := ready_mono hj hji
      have fin : ∃ N, ∀ k, N ≤ k → (O.put g (true, t, cs')) k = none := ⟨max N (g + 1), fun k hk => by rw [Own.put_ne _ _ (by omega)]; exact hN k (by omega)⟩
      obtain ⟨hjun, oj, hoj, hall⟩ := mem_ready.1 hj
      have hnot : ∀ e ∈ oj.after, Region.binds md e = true → e.on ≠ i := fun e he hb heq => by
        have h1 := hall e he hb
        have h0 := (mem_ready.1 hr).1
        rw [heq] at h1
        rcases Nat.lt_or_ge i listed.size with h' | h'
        · simp [h'] at h0 h1; rw [h0] at h1; cases h1
        · simp [Array.getElem?_eq_none h'] at h1
      obtain ⟨p1, p2, p3⟩ := Oper.apart_spec (Region.free_spec ho hf j oj hoj hji hjun hnot)
      have si := fun c b => hsel i o c b ho
      have sj := fun c b => hsel j oj c b hoj
      have back : ∀ u : Value, Stores P (a.put oj.dst u) o g t cs cs' := fun u => (Stores.put (ops := ops) si p3).2 ha
      refine ⟨oj, hoj, ?_⟩
      obtain ⟨o1, ho1, hk⟩ := ih fin j hj'
      obtain rfl : o1 = oj := by rw [hoj] at ho1; injection ho1 with ho1; exact ho1.symm
      rcases hk with ⟨ty1, z1, ha1, hd1⟩ | ⟨g1, t1, cs1, cs1', hg1, hs1, hd1⟩
      · refine Or.inl ⟨ty1, z1, ha1.same (execOp_put (ops := ops) o1 sj a o.dst _ p1).symm, fun g' hg' => ?_⟩
        have hne : g ≠ g' := by
          rintro rfl
          rw [hg] at hg'
          cases hg'
        refine .store i ho (free_mono hf) (ready_mono hr (Ne.symm hji)) (by rw [Own.put_ne _ _ hne]; exact hg) (back _) ?_
        have hd := hd1 g' (by rw [Own.put_ne _ _ (Ne.symm hne)]; exact hg')
        rw [Own.put_comm _ _ _ (Ne.symm hne), Array.setIfInBounds_comm _ _ (Ne.symm hji), Act.put_comm a _ _ p2] at hd
        exact hd
      · have hne : g1 ≠ g := by
          rintro rfl
          rw [Own.put_self] at hg1
          injection hg1 with hg1
          injection hg1 with hg1
          cases hg1
        rw [Own.put_ne _ _ hne] at hg1
        refine Or.inr ⟨g1, t1, cs1, cs1', hg1, (Stores.put (ops := ops) sj p1).1 hs1, ?_⟩
        refine .store i ho (free_mono hf) (ready_mono hr (Ne.symm hji)) (by rw [Own.put_ne _ _ (Ne.symm hne)]; exact hg) (back _) ?_
        rw [Own.put_comm _ _ _ hne, Array.setIfInBounds_comm _ _ (Ne.symm hji), Act.put_comm a _ _ p2] at hd1
        exact hd1

inductive Det (P : Program) (ops : Array Oper) (Q : Exit → Act → World → Prop) (md : Region.Mode) (w0 : World) : Array Bool → Own → Act → Prop
  | base {listed : Array Bool} {O : Own} {a : Act} (h : Det2 P ops Q md w0 listed O a) : Det P ops Q md w0 listed O a
  | acts {listed : Array Bool} {O : Own} {a : Act} (i : Nat) {o : Oper} {v : Value} (ho : ops[i]? = some o) (hf : Region.free md ops listed i = true) (hr : i ∈ Region.ready md ops listed) (ha : Acts P ops w0 o v a)
      (h : Det P ops Q md w0 (listed.setIfInBounds i true) O (a.put o.dst v)) : Det P ops Q md w0 listed O a

def Step1 (P : Program) (ops : Array Oper) (Q : Exit → Act → World → Prop) (md : Region.Mode) (w0 : World) (j : Nat) (listed : Array Bool) (O : Own) (a : Act) : Prop :=
  ∃ o, ops[j]? = some o ∧
    ((∃ v, Acts P ops w0 o v a ∧ Det P ops Q md w0 (listed.setIfInBounds j true) O (a.put o.dst v)) ∨
     (∃ ty z, Allocs P a o ty z ∧ ∀ g, O g = none → Det P ops Q md w0 (listed.setIfInBounds j true) (O.put g (false, ty, z)) (a.put o.dst (.pointer (some ⟨g, 0, none⟩)))) ∨
     (∃ g t cs cs', O g = some (false, t, cs) ∧ Stores P a o g t cs cs' ∧ Det P ops Q md w0 (listed.setIfInBounds j true) (O.put g (true, t, cs')) (a.put o.dst undef)))

theorem step1 (hsel : ∀ (j : Nat) (o : Oper) cs b, ops[j]? = some o → o.op ≠ .select cs b) {listed : Array Bool} {O : Own} {a : Act} (h : Det P ops Q md w0 listed O a) : (∃ N, ∀ g, N ≤ g → O g = none) →
    ∀ j, j ∈ Region.ready md ops listed → Step1 P ops Q md w0 j listed O a := by
  induction h with
  | base h =>
    intro fin j hj
    obtain ⟨o, ho, hk⟩ := step2 hsel h fin j hj
    rcases hk with ⟨ty, z, h1, h2⟩ | ⟨g, t, cs, cs', h1, h2, h3⟩
    · exact ⟨o, ho, Or.inr (Or.inl ⟨ty, z, h1, fun g hg => .base (h2 g hg)⟩)⟩
    · exact ⟨o, ho, Or.inr (Or.inr ⟨g, t, cs, cs', h1, h2, .base h3⟩)⟩
  | @acts listed O a i o v ho hf hr ha h ih =>
    intro fin j hj
    by_cases hji : j = i
    · subst hji
      exact ⟨o, ho, Or.inl ⟨v, ha, h⟩⟩
    · have hj' := ready_mono hj hji
      obtain ⟨hjun, oj, hoj, hall⟩ := mem_ready.1 hj
      have hnot : ∀ e ∈ oj.after, Region.binds md e = true → e.on ≠ i := fun e he hb heq => by
        have h1 := hall e he hb
        have h0 := (mem_ready.1 hr).1
        rw [heq] at h1
        rcases Nat.lt_or_ge i listed.size with h' | h'
        · simp [h'] at h0 h1; rw [h0] at h1; cases h1
        · simp [Array.getElem?_eq_none h'] at h1
      obtain ⟨p1, p2, p3⟩ := Oper.apart_spec (Region.free_spec ho hf j oj hoj hji hjun hnot)
      have si := fun c b => hsel i o c b ho
      have sj := fun c b => hsel j oj c b hoj
      have back : ∀ u : Value, Acts P ops w0 o v (a.put oj.dst u) := fun u => ha.same (execOp_put (ops := ops) o si a oj.dst u p3) (wanted_put o a oj.dst u p3)
      refine ⟨oj, hoj, ?_⟩
      obtain ⟨o1, ho1, hk⟩ := ih fin j hj'
      obtain rfl : o1 = oj := by rw [hoj] at ho1; injection ho1 with ho1; exact ho1.symm
      rcases hk with ⟨u, ha1, hd1⟩ | ⟨ty1, z1, ha1, hd1⟩ | ⟨g1, t1, cs1, cs1', hg1, hs1, hd1⟩
      · refine Or.inl ⟨u, ha1.same (execOp_put (ops := ops) o1 sj a o.dst _ p1).symm (wanted_put o1 a o.dst _ p1).symm, ?_⟩
        refine .acts i ho (free_mono hf) (ready_mono hr (Ne.symm hji)) (back _) ?_
        rw [Array.setIfInBounds_comm _ _ (Ne.symm hji), Act.put_comm a _ _ p2] at hd1
        exact hd1
      · refine Or.inr (Or.inl ⟨ty1, z1, ha1.same (execOp_put (ops := ops) o1 sj a o.dst _ p1).symm, fun g hg => ?_⟩)
        refine .acts i ho (free_mono hf) (ready_mono hr (Ne.symm hji)) (back _) ?_
        have hd := hd1 g hg
        rw [Array.setIfInBounds_comm _ _ (Ne.symm hji), Act.put_comm a _ _ p2] at hd
        exact hd
      · refine Or.inr (Or.inr ⟨g1, t1, cs1, cs1', hg1, (Stores.put (ops := ops) sj p1).1 hs1, ?_⟩)
        refine .acts i ho (free_mono hf) (ready_mono hr (Ne.symm hji)) (back _) ?_
        rw [Array.setIfInBounds_comm _ _ (Ne.symm hji), Act.put_comm a _ _ p2] at hd1
        exact hd1

theorem InO.fin {O : Own} {w : World} (h : InO w0 O w) : ∃ N, ∀ g, N ≤ g → O g = none := by
  refine ⟨w.heap.size, fun g hg => ?_⟩
  cases ho : O g with
  | none => rfl
  | some x =>
    obtain ⟨b, t, cs⟩ := x
    have := (h.2 g b t cs ho).2.lt
    omega
theorem InO.grows {O : Own} {w w' : World} (h : InO w0 O w) (hb : Below w.heap.size w w') : InO w0 O w' :=
  ⟨h.1.trans (hb.mono h.1.size), fun g b t cs ho => ⟨(h.2 g b t cs ho).1, (h.2 g b t cs ho).2.callee hb⟩⟩
def left (ops : Array Oper) (listed : Array Bool) : Nat := ((List.range ops.size).filter fun i => !listed.getD i true).length
theorem left_lt {listed : Array Bool} {j : Nat} (hj : j < ops.size) (hu : listed.getD j true = false) : left ops (listed.setIfInBounds j true) < left ops listed := by
  unfold left
  have hsub : ((List.range ops.size).filter fun i => !(listed.setIfInBounds j true).getD i true) = ((List.range ops.size).filter fun i => !listed.getD i true).filter fun i => !(i == j) := by
    rw [List.filter_filter]
    apply List.filter_congr
    intro i _
    by_cases h : j = i
    · subst h
      have hl : (listed.setIfInBounds j true).getD j true = true := by
        by_cases hlt : j < listed.size
        · simp [hlt]
        · simp [hlt]
      rw [hl]
      simp
    · rw [getD_set_ne true h]
      have : (i == j) = false := by simpa using fun e => h e.symm
      simp [this]
  rw [hsub]
  have hm : j ∈ (List.range ops.size).filter fun i => !listed.getD i true := List.mem_filter.2 ⟨List.mem_range.2 hj, by rw [hu]; rfl⟩
  generalize ((List.range ops.size).filter fun i => !listed.getD i true) = l at hm
  rcases Nat.lt_or_ge (l.filter fun i => !(i == j)).length l.length with h | h
  · exact h
  · have he := List.Sublist.eq_of_length_le (List.filter_sublist (p := fun i => !(i == j)) (l := l)) h
    rw [← he] at hm
    have := (List.mem_filter.1 hm).2
    simp at this
theorem ready_nil {listed : Array Bool} (h : left ops listed = 0) : Region.ready md ops listed = [] := by
  unfold left at h
  have h0 := List.length_eq_zero_iff.1 h
  unfold Region.ready
  rw [List.filter_eq_nil_iff] at h0 ⊢
  intro i hi
  have := h0 i hi
  simp only [Bool.not_eq_true', Bool.not_eq_false] at this
  simp [this]
theorem Det.end_ {listed : Array Bool} {O : Own} {a : Act} (h : Det P ops Q md w0 listed O a) (hr : Region.ready md ops listed = []) {w : World} (hw : InO w0 O w) : Q .normal a w := by
  cases h with
  | base h =>
    cases h with
    | done _ h => exact h w hw
    | alloc i _ _ h2 => rw [hr] at h2; cases h2
    | store i _ _ h2 => rw [hr] at h2; cases h2
  | acts i _ _ h2 => rw [hr] at h2; cases h2
theorem wanted_none {o : Oper} (h : o.guard = none) (y : Nat → Option Bool) : Region.wanted o y = true := by
  unfold Region.wanted
  rw [h]
theorem any_of_det (hsel : ∀ (j : Nat) (o : Oper) cs b, ops[j]? = some o → o.op ≠ .select cs b) : ∀ (fuel : Nat) (listed : Array Bool) (O : Own) (a : Act) (w : World), left ops listed ≤ fuel → Det P ops Q md w0 listed O a → InO w0 O w → wpAny P md ops Q fuel listed a w := by
  intro fuel
  induction fuel with
  | zero =>
    intro listed O a w hl h hw
    have hr := ready_nil (md := md) (show left ops listed = 0 by omega)
    exact ⟨hr, h.end_ hr hw⟩
  | succ fuel ih =>
    intro listed O a w hl h hw
    refine ⟨fun hr => h.end_ hr hw, fun j hj => ?_⟩
    obtain ⟨o, ho, hk⟩ := step1 hsel h hw.fin j hj
    have hu := (mem_ready.1 hj).1
    have hlt : j < ops.size := (Array.getElem?_eq_some_iff.1 ho).1
    have hl' : left ops (listed.setIfInBounds j true) ≤ fuel := by have := left_lt hlt hu; omega
    unfold wpOp
    simp only [ho]
    rcases hk with ⟨v, hact, hd⟩ | ⟨ty, z, hall, hd⟩ | ⟨g, t, cs, cs', hg, hst, hd⟩
    · rcases hact with ⟨hwt, hrun⟩ | ⟨hwt, rfl⟩
      · rw [if_pos hwt]
        left
        rcases hrun w hw.1 with h1 | ⟨f, args, h1, h2⟩
        · unfold Oper.wp
          rw [h1]
          exact ih _ _ _ _ hl' hd hw
        · unfold Oper.wp
          rw [h1, Oper.upon_enter]
          refine h2.mono ?_
          rintro e w' ⟨rfl, hb⟩
          exact ih _ _ _ _ hl' hd (hw.grows hb)
      · rw [if_neg (by rw [hwt]; decide)]
        exact ih _ _ _ _ hl' hd hw
    · rw [if_pos (wanted_none hall.1 _)]
      left
      unfold Oper.wp
      rw [hall.2.2 w]
      have hnew : O w.heap.size = none := by
        cases ho' : O w.heap.size with
        | none => rfl
        | some x =>
          obtain ⟨b, t, cs⟩ := x
          have := (hw.2 _ b t cs ho').2.lt
          omega
      refine ih _ _ _ _ hl' (hd w.heap.size hnew) ⟨hw.1.alloc hw.1.size _, fun k b t cs hk => ?_⟩
      by_cases hkg : k = w.heap.size
      · subst hkg
        rw [Own.put_self] at hk
        injection hk with hk
        injection hk with _ hk
        injection hk with e1 e2
        subst e1 e2
        exact ⟨hw.1.size, Blk.new _ _ _⟩
      · rw [Own.put_ne _ _ hkg] at hk
        exact ⟨(hw.2 k b t cs hk).1, (hw.2 k b t cs hk).2.alloc _⟩
    · rw [if_pos (wanted_none hst.1 _)]
      left
      obtain ⟨h1, ty, x, y, h2, h3, h4, h5⟩ := hst
      obtain ⟨hgB, hgB2⟩ := hw.2 g _ _ _ hg
      obtain ⟨w', hr, hB, hgr⟩ := h5 w hgB2
      unfold Oper.wp
      rw [hr]
      refine ih _ _ _ _ hl' hd ⟨below_some hw.1 hgr hw.1.size hgB, fun k b t' cs2 hk => ?_⟩
      by_cases hkg : k = g
      · subst hkg
        rw [Own.put_self] at hk
        injection hk with hk
        injection hk with _ hk
        injection hk with e1 e2
        subst e1 e2
        exact ⟨hgB, hB⟩
      · rw [Own.put_ne _ _ hkg] at hk
        exact ⟨(hw.2 k b t' cs2 hk).1, (hw.2 k b t' cs2 hk).2.some_ hgr hkg⟩
/-- the beginning -/
theorem region_det {id : Nat} {a : Act} {w : World} (hm : P.follows .mixedOrders = true) (hs : Region.noSelect ops = true)
    (h : Det P ops Q .any w.drew (Array.replicate ops.size false) (fun _ => none) a) : (Code.region id ops true).wp P Q a w :=
  wp_region_any hm (any_of_det (Region.noSelect_spec hs) _ _ _ _ _ (by unfold left; exact Nat.le_trans (List.length_filter_le _ _) (by simp)) h ⟨Below.refl _ _, fun _ _ _ _ hk => by cases hk⟩)

/-! the moves -/
theorem of_contains {i : Nat} {listed : Array Bool} (h : (Region.ready md ops listed).contains i = true) : i ∈ Region.ready md ops listed := by simpa using h
theorem Det.read {listed : Array Bool} {O : Own} {a : Act} (i : Nat) {o : Oper} {v : Value} (ho : ops[i]? = some o) (hf : Region.free md ops listed i = true) (hr : (Region.ready md ops listed).contains i = true)
    (hw : Region.wanted o (yielded ops a.tmps) = true) (hy : ∀ w, Below w0.heap.size w0 w → (execOp a.eval o).run P w = .ok (.value v) w)
    (h : Det P ops Q md w0 (listed.setIfInBounds i true) O (a.put o.dst v)) : Det P ops Q md w0 listed O a := .acts i ho hf (of_contains hr) (.pure hw hy) h
theorem Det.skip {listed : Array Bool} {O : Own} {a : Act} (i : Nat) {o : Oper} (ho : ops[i]? = some o) (hf : Region.free md ops listed i = true) (hr : (Region.ready md ops listed).contains i = true)
    (hw : Region.wanted o (yielded ops a.tmps) = false) (h : Det P ops Q md w0 (listed.setIfInBounds i true) O (a.put o.dst undef)) : Det P ops Q md w0 listed O a := .acts i ho hf (of_contains hr) (.not hw) h
theorem Det.call {listed : Array Bool} {O : Own} {a : Act} (i : Nat) {o : Oper} {v : Value} {f : FuncId} {args : Array Value} (ho : ops[i]? = some o) (hf : Region.free md ops listed i = true) (hr : (Region.ready md ops listed).contains i = true)
    (hw : Region.wanted o (yielded ops a.tmps) = true) (he : ∀ w, (execOp a.eval o).run P w = .ok (.enter f args) w)
    (hc : ∀ w, Below w0.heap.size w0 w → Calls P f args w fun e w' => e = .returned v ∧ Below w.heap.size w w')
    (h : Det P ops Q md w0 (listed.setIfInBounds i true) O (a.put o.dst v)) : Det P ops Q md w0 listed O a := .acts i ho hf (of_contains hr) (.call f args hw he hc) h
theorem Det.guard {listed : Array Bool} {O : Own} {a : Act} (i : Nat) (b : Bool) {o : Oper} {v : Value} (ho : ops[i]? = some o) (hf : Region.free md ops listed i = true) (hr : (Region.ready md ops listed).contains i = true)
    (hw : Region.wanted o (yielded ops a.tmps) = b) (hy : b = true → ∀ w, Below w0.heap.size w0 w → (execOp a.eval o).run P w = .ok (.value v) w)
    (h : Det P ops Q md w0 (listed.setIfInBounds i true) O (a.put o.dst (if b = true then v else undef))) : Det P ops Q md w0 listed O a := by
  cases b with
  | true => exact .acts i ho hf (of_contains hr) (.pure hw (hy rfl)) h
  | false => exact .acts i ho hf (of_contains hr) (.not hw) h
theorem Det.gcall {listed : Array Bool} {O : Own} {a : Act} (i : Nat) (b : Bool) {o : Oper} {v : Value} {f : FuncId} {args : Array Value} (ho : ops[i]? = some o) (hf : Region.free md ops listed i = true) (hr : (Region.ready md ops listed).contains i = true)
    (hw : Region.wanted o (yielded ops a.tmps) = b) (he : b = true → ∀ w, (execOp a.eval o).run P w = .ok (.enter f args) w)
    (hc : b = true → ∀ w, Below w0.heap.size w0 w → Calls P f args w fun e w' => e = .returned v ∧ Below w.heap.size w w')
    (h : Det P ops Q md w0 (listed.setIfInBounds i true) O (a.put o.dst (if b = true then v else undef))) : Det P ops Q md w0 listed O a := by
  cases b with
  | true => exact .acts i ho hf (of_contains hr) (.call f args hw (he rfl) (hc rfl)) h
  | false => exact .acts i ho hf (of_contains hr) (.not hw) h
theorem Det.frame {listed : Array Bool} {O : Own} {a a' : Act} (ha : a = a') (h : Det P ops Q md w0 listed O a') : Det P ops Q md w0 listed O a := ha ▸ h
theorem Det2.new {listed : Array Bool} {O : Own} {a : Act} (i : Nat) {o : Oper} (ty : TypeId) (z : Array Value) (ho : ops[i]? = some o) (hf : Region.free md ops listed i = true) (hr : (Region.ready md ops listed).contains i = true)
    (hg : o.guard = none) (hop : o.op = .alloc ty) (hz : ∀ w, (zeroValue ty).run P w = .ok (.agg z) w)
    (h : ∀ g, O g = none → Det2 P ops Q md w0 (listed.setIfInBounds i true) (O.put g (false, ty, z)) (a.put o.dst (.pointer (some ⟨g, 0, none⟩)))) : Det2 P ops Q md w0 listed O a :=
  .alloc i ho hf (of_contains hr) ⟨hg, hop, fun w => by unfold execOp; simp only [hop]; simp [go_sem, hz]⟩ h
theorem Det2.lay {listed : Array Bool} {O : Own} {a : Act} (i : Nat) {o : Oper} (ty : TypeId) (x y : Operand) (g : Nat) (t : TypeId) (cs cells : Array Value) (ho : ops[i]? = some o) (hf : Region.free md ops listed i = true) (hr : (Region.ready md ops listed).contains i = true)
    (hg : o.guard = none) (hop : o.op = .store ty x y) (hx : a.eval x = .pointer (some ⟨g, 0, none⟩)) (hy : a.eval y = .agg cells) (hO : O g = some (false, t, cs))
    (hi : (P.info? ty).map (·.size) = some cells.size) (hold : cs.size = cells.size) (h1 : cells.all (·.oneCell') = true)
    (h : Det2 P ops Q md w0 (listed.setIfInBounds i true) (O.put g (true, t, cells)) (a.put o.dst undef)) : Det2 P ops Q md w0 listed O a :=
  .store i ho hf (of_contains hr) hO ⟨hg, ty, x, y, hop, hx, by rw [hy]; rfl, fun w hw => ⟨w.setRow g cells, by
    unfold execOp
    simp only [hop, hx, hy, Instr.storeAt, Instr.sureAddr, Sem.run_bind, Sem.run_pure, Result.andThen_ok, run_storeVar_row w g t ty cs cells hw hi hold h1], Blk.row hw cells, grownBy_setRow w g cells⟩⟩ h
end
end De
end Go.Proofs.YtkbfmogjhjdjmaaDoor
