/- The texts DrInv to DrWa, joined by joinlist.py: their statements say what each proves. -/
import Derived.Test.YtbgakdpbglpfaaaGreatDoorDrZ
-- the text DrInv
namespace Go.Proofs.YtbgakdpbglpfaaaGreatDoor
namespace Dr
/-- what numbers a line may tell -/
def DeedOk : Deed → Prop
  | .found _ => True
  | .size _ s => 1 ≤ s ∧ s ≤ 30
  | .buy _ s k => 1 ≤ s ∧ s ≤ 30 ∧ 1 ≤ k ∧ k ≤ 40
  | .order _ _ n => 1 ≤ n ∧ n ≤ 999
  | .back _ => True
  | .moth _ s => 1 ≤ s ∧ s ≤ 30
  | .count _ s k => 1 ≤ s ∧ s ≤ 30 ∧ k ≤ 40
  | .lock _ _ => True
structure Inv (n : Nat) (S : House) : Prop where
  four : S.chests.length ≤ 4
  ok : Oks S
  cnt : ∀ k c, lk k S.chests = some c → c.out.length ≤ n ∧ c.bought ≤ 1200 * n ∧ c.eaten ≤ 30 * n
  out : ∀ o p, lk o S.out = some p → ∃ c, lk p.drawer S.chests = some c ∧ o ∈ c.out ∧ p.packets.length ≤ 200 ∧ ∀ s ∈ p.packets, s ∈ c.sizes
  used : ∀ o, hasB o S.used = false → lk o S.out = none
  nd : (S.out.map (·.1)).Nodup
  ndc : (S.chests.map (·.1)).Nodup
theorem Inv.empty : Inv 0 ⟨[], [], []⟩ where
  four := by simp
  ok := fun k c h => by cases h
  cnt := fun k c h => by cases h
  out := fun k c h => by cases h
  used := fun o _ => rfl
  nd := by simp
  ndc := by simp
theorem Inv.up {n m : Nat} {S : House} (I : Inv n S) (h : n ≤ m) : Inv m S :=
  { I with cnt := fun k c hk => by have := I.cnt k c hk; omega }
theorem ins_mem {i x y : Nat} {l : List Nat} : y ∈ insAt i x l ↔ y = x ∨ y ∈ l := by
  unfold insAt
  rw [List.mem_append, List.mem_cons]
  constructor
  · rintro (h | h | h)
    · exact Or.inr (List.mem_of_mem_take h)
    · exact Or.inl h
    · exact Or.inr (List.mem_of_mem_drop h)
  · rintro (h | h)
    · exact Or.inr (Or.inl h)
    · rw [← List.take_append_drop i l, List.mem_append] at h
      rcases h with h | h
      · exact Or.inl h
      · exact Or.inr (Or.inr h)
theorem pos_cons (s x : Nat) (l : List Nat) : pos s (x :: l) = pos s l + if x < s then 1 else 0 := by
  unfold pos
  rw [List.countP_cons]
  by_cases h : x < s <;> simp [h]
theorem pos_none {s : Nat} {l : List Nat} (h : ∀ y ∈ l, ¬ y < s) : pos s l = 0 := by
  unfold pos
  rw [List.countP_eq_zero]
  intro y hy
  simpa using h y hy
theorem ins_sorted {s : Nat} {l : List Nat} (hs : l.Pairwise (· < ·)) (hn : s ∉ l) : (insAt (pos s l) s l).Pairwise (· < ·) := by
  induction l with
  | nil => simp [insAt, pos]
  | cons x l ih =>
    rw [List.pairwise_cons] at hs
    have hx : x ≠ s := fun e => hn (by simp [e])
    have hn' : s ∉ l := fun e => hn (by simp [e])
    by_cases h : x < s
    · have e : insAt (pos s (x :: l)) s (x :: l) = x :: insAt (pos s l) s l := by
        rw [pos_cons, if_pos h]
        simp [insAt]
      rw [e, List.pairwise_cons]
      refine ⟨fun y hy => ?_, ih hs.2 hn'⟩
      rcases ins_mem.1 hy with rfl | hy
      · exact h
      · exact hs.1 y hy
    · have e : insAt (pos s (x :: l)) s (x :: l) = s :: x :: l := by
        rw [pos_none (fun y hy => by
          rcases List.mem_cons.1 hy with rfl | hy
          · exact h
          · have := hs.1 y hy
            omega)]
        simp [insAt]
      rw [e, List.pairwise_cons]
      refine ⟨fun y hy => ?_, List.pairwise_cons.2 hs⟩
      rcases List.mem_cons.1 hy with rfl | hy
      · omega
      · have := hs.1 y hy
        omega
theorem ins_len (i x : Nat) (l : List Nat) : (insAt i x l).length = l.length + 1 := by
  unfold insAt
  rw [List.length_append, List.length_cons, List.length_take, List.length_drop]
  omega
theorem back_ok {ss : List Nat} : ∀ {l ms ms' : List Nat}, backP ss l ms = some ms' → (∀ x ∈ ms, x ≤ 40) → ms'.length = ms.length ∧ ∀ x ∈ ms', x ≤ 40 := by
  intro l
  induction l with
  | nil => intro ms ms' h hm; injection h with h; subst h; exact ⟨rfl, hm⟩
  | cons s l ih =>
    intro ms ms' h hm
    unfold backP at h
    split at h
    · cases h
    · rename_i h40
      obtain ⟨h1, h2⟩ := ih h (fun x hx => by
        rcases List.mem_or_eq_of_mem_set hx with hx | rfl
        · exact hm x hx
        · omega)
      exact ⟨by rw [h1, List.length_set], h2⟩
theorem packs_mem {ss l : List Nat} {s : Nat} (h : s ∈ packsP ss l) : s ∈ ss := by
  unfold packsP at h
  rw [List.mem_flatMap] at h
  obtain ⟨p, hp, hs⟩ := h
  rw [List.mem_replicate] at hs
  rw [hs.2]
  exact (List.of_mem_zip hp).1
theorem zip_le {ms l : List Nat} (h : ∀ x ∈ ms, x ≤ 40) : ∀ x ∈ List.zipWith (· - ·) ms l, x ≤ 40 := by
  induction ms generalizing l with
  | nil => simp
  | cons m ms ih =>
    cases l with
    | nil => simp
    | cons k l =>
      intro x hx
      rw [List.zipWith_cons_cons, List.mem_cons] at hx
      rcases hx with rfl | hx
      · have := h m (by simp)
        omega
      · exact ih (fun y hy => h y (by simp [hy])) x hx
theorem keys_append {α : Type} {k : ByteArray} {v : α} {l : List (ByteArray × α)} (hd : (l.map (·.1)).Nodup) (h : lk k l = none) : ((l ++ [(k, v)]).map (·.1)).Nodup := by
  rw [List.map_append, List.nodup_append]
  refine ⟨hd, by simp, fun a ha b hb => ?_⟩
  simp at hb
  subst hb
  exact fun e => lk_none.1 h (by rw [← e]; exact ha)
theorem delA_keys {α : Type} {k : ByteArray} {l : List (ByteArray × α)} (hd : (l.map (·.1)).Nodup) : ((delA k l).map (·.1)).Nodup := by
  have hsub : ∀ l : List (ByteArray × α), ((delA k l).map (·.1)).Sublist (l.map (·.1)) := by
    intro l
    induction l with
    | nil => exact List.Sublist.refl _
    | cons x l ih =>
      unfold delA
      by_cases h : x.1 = k
      · rw [if_pos h]
        exact List.sublist_cons_self _ _
      · rw [if_neg h, List.map_cons, List.map_cons]
        exact ih.cons_cons _
  exact (hsub l).nodup hd
section
variable {n : Nat} {S : House}
/-- one drawer is turned -/
theorem Inv.turn {d : ByteArray} {c c' : Chest} (I : Inv n S) (hk : lk d S.chests = some c) (hok : ChestOk c') (hc : c'.out.length ≤ n + 1 ∧ c'.bought ≤ 1200 * (n + 1) ∧ c'.eaten ≤ 30 * (n + 1)) (ho : ∀ o ∈ c.out, o ∈ c'.out) (hs : ∀ s ∈ c.sizes, s ∈ c'.sizes) : Inv (n + 1) (S.set d c') where
  four := by
    have h := congrArg List.length (keys_setA (v := c') hk)
    rw [List.length_map, List.length_map] at h
    show (setA d c' S.chests).length ≤ 4
    rw [h]
    exact I.four
  ok := fun k x hx => by
    have hx' : lk k (setA d c' S.chests) = some x := hx
    rw [lk_setA hk] at hx'
    by_cases e : k = d
    · rw [if_pos e] at hx'
      injection hx' with hx'
      subst hx'
      exact hok
    · rw [if_neg e] at hx'
      exact I.ok k x hx'
  cnt := fun k x hx => by
    have hx' : lk k (setA d c' S.chests) = some x := hx
    rw [lk_setA hk] at hx'
    by_cases e : k = d
    · rw [if_pos e] at hx'
      injection hx' with hx'
      subst hx'
      exact hc
    · rw [if_neg e] at hx'
      have := I.cnt k x hx'
      omega
  out := fun o p hp => by
    obtain ⟨x, h1, h2, h3, h4⟩ := I.out o p hp
    show ∃ y, lk p.drawer (setA d c' S.chests) = some y ∧ _
    rw [lk_setA hk]
    by_cases e : p.drawer = d
    · rw [if_pos e]
      rw [e, hk] at h1
      injection h1 with h1
      subst h1
      exact ⟨c', rfl, ho o h2, h3, fun s hp => hs s (h4 s hp)⟩
    · rw [if_neg e]
      exact ⟨x, h1, h2, h3, h4⟩
  used := I.used
  nd := I.nd
  ndc := by
    show ((setA d c' S.chests).map (·.1)).Nodup
    rw [keys_setA hk]
    exact I.ndc
theorem inv_step {d : Deed} (I : Inv n S) (hn : n ≤ 150) (hd : DeedOk d) (h : (doP S d).1 = 0) : Inv (n + 1) (doP S d).2 := by
  cases d with
  | found d =>
    simp only [doP] at h ⊢
    by_cases h1 : (lk d S.chests).isSome = true
    · rw [if_pos h1] at h; cases h
    · rw [if_neg h1] at h ⊢
      by_cases h2 : S.chests.length = 4
      · rw [if_pos h2] at h; cases h
      · rw [if_neg h2]
        have h0 : lk d S.chests = none := by simpa using h1
        have I' := I.up (Nat.le_succ n)
        have hlk : ∀ k x, lk k (S.chests ++ [(d, newChest)]) = some x → x = newChest ∨ lk k S.chests = some x := fun k x hx => by
          rw [lk_append h0] at hx
          by_cases e : k = d
          · rw [if_pos e] at hx
            injection hx with hx
            exact Or.inl hx.symm
          · rw [if_neg e] at hx
            exact Or.inr hx
        exact
          { four := by
              have := I.four
              show (S.chests ++ [(d, newChest)]).length ≤ 4
              rw [List.length_append, List.length_singleton]
              omega
            ok := fun k x hx => by
              rcases hlk k x hx with rfl | hx
              · exact ⟨List.Pairwise.nil, by decide, rfl, (fun s h => absurd h (by simp [newChest])), (fun s h => absurd h (by simp [newChest])), by decide, by decide, by decide⟩
              · exact I.ok k x hx
            cnt := fun k x hx => by
              rcases hlk k x hx with rfl | hx
              · exact ⟨Nat.zero_le _, Nat.zero_le _, Nat.zero_le _⟩
              · exact I'.cnt k x hx
            out := fun o p hp => by
              obtain ⟨x, h1, h2⟩ := I.out o p hp
              refine ⟨x, ?_, h2⟩
              show lk p.drawer (S.chests ++ [(d, newChest)]) = some x
              rw [lk_append h0]
              by_cases e : p.drawer = d
              · rw [e, h0] at h1; cases h1
              · rw [if_neg e]; exact h1
            used := I.used
            nd := I.nd
            ndc := keys_append I.ndc h0 }
  | size d s =>
    simp only [doP] at h ⊢
    cases hk : lk d S.chests with
    | none => simp [hk] at h
    | some c =>
      simp only [hk] at h ⊢
      by_cases h1 : c.shut = true
      · rw [if_pos h1] at h; cases h
      rw [if_neg h1] at h ⊢
      by_cases h2 : c.sizes.contains s = true
      · rw [if_pos h2] at h; cases h
      rw [if_neg h2] at h ⊢
      by_cases h3 : c.sizes.length = 5
      · rw [if_pos h3] at h; cases h
      rw [if_neg h3]
      have K := I.ok d c hk
      have N := I.cnt d c hk
      have hns : s ∉ c.sizes := by simpa using h2
      refine I.turn hk ⟨ins_sorted K.srt hns, by have := K.five; show (insAt _ _ _).length ≤ 5; rw [ins_len]; omega, by show (insAt _ _ _).length = (insAt _ _ _).length; rw [ins_len, ins_len, K.len], fun x hx => ?_, fun x hx => ?_, K.outl, K.bou, K.eat⟩ ⟨by show c.out.length ≤ n + 1; omega, by show c.bought ≤ _; omega, by show c.eaten ≤ _; omega⟩ (fun o ho => ho) (fun x hx => ins_mem.2 (Or.inr hx))
      · rcases ins_mem.1 hx with rfl | hx
        · exact hd
        · exact K.rng x hx
      · rcases ins_mem.1 hx with rfl | hx
        · exact Nat.zero_le _
        · exact K.stk x hx
  | buy d s k =>
    obtain ⟨g1, g2, g3, g4⟩ := hd
    simp only [doP] at h ⊢
    cases hk : lk d S.chests with
    | none => simp [hk] at h
    | some c =>
      simp only [hk] at h ⊢
      by_cases h1 : c.shut = true
      · rw [if_pos h1] at h; cases h
      rw [if_neg h1] at h ⊢
      by_cases h2 : (!c.sizes.contains s) = true
      · rw [if_pos h2] at h; cases h
      rw [if_neg h2] at h ⊢
      by_cases h3 : 40 < c.stock.getD (pos s c.sizes) 0 + k
      · rw [if_pos h3] at h; cases h
      rw [if_neg h3]
      have K := I.ok d c hk
      have N := I.cnt d c hk
      have hks : k * s ≤ 40 * 30 := Nat.mul_le_mul g4 g2
      refine I.turn hk ⟨K.srt, K.five, by show (c.stock.set _ _).length = _; rw [List.length_set, K.len], K.rng, fun x hx => ?_, K.outl, by show c.bought + k * s ≤ _; omega, K.eat⟩ ⟨by show c.out.length ≤ n + 1; omega, by show c.bought + k * s ≤ _; omega, by show c.eaten ≤ _; omega⟩ (fun o ho => ho) (fun x hx => hx)
      rcases List.mem_or_eq_of_mem_set hx with hx | rfl
      · exact K.stk x hx
      · omega
  | order o d m =>
    simp only [doP] at h ⊢
    by_cases h0 : hasB o S.used = true
    · rw [if_pos h0] at h; cases h
    rw [if_neg h0] at h ⊢
    have hno := I.used o (by simpa using h0)
    cases hk : lk d S.chests with
    | none => simp [hk] at h
    | some c =>
      simp only [hk] at h ⊢
      by_cases h1 : c.shut = true
      · rw [if_pos h1] at h; cases h
      rw [if_neg h1] at h ⊢
      cases hf : fillP c.sizes c.stock m with
      | none => simp [hf] at h
      | some l =>
        simp only [hf] at h ⊢
        have K := I.ok d c hk
        have N := I.cnt d c hk
        obtain ⟨e1, e2⟩ := fillP_some hf K.len
        have l40 : ∀ x ∈ l, x ≤ 40 := fun x hx => by
          obtain ⟨i, hi, rfl⟩ := List.getElem_of_mem hx
          have hi2 : i < c.stock.length := by rw [K.len, ← e1]; exact hi
          have := e2 i _ _ (List.getElem?_eq_getElem hi) (List.getElem?_eq_getElem hi2)
          have := K.stk _ (List.getElem_mem hi2)
          omega
        have pl : (packsP c.sizes l).length ≤ 200 := by
          have := packs_len (ss := c.sizes) (l := l) K.five l40 5
          rwa [List.take_of_length_le K.five, List.take_of_length_le (by rw [e1]; exact K.five)] at this
        have T : Inv (n + 1) (S.set d { c with stock := List.zipWith (· - ·) c.stock l, out := c.out ++ [o] }) :=
          I.turn hk ⟨K.srt, K.five, by show (List.zipWith _ _ _).length = _; rw [List.length_zipWith, K.len, e1, Nat.min_self], K.rng, zip_le K.stk, by show (c.out ++ [o]).length ≤ 200; rw [List.length_append, List.length_singleton]; omega, K.bou, K.eat⟩
            ⟨by show (c.out ++ [o]).length ≤ n + 1; rw [List.length_append, List.length_singleton]; omega, by show c.bought ≤ _; omega, by show c.eaten ≤ _; omega⟩ (fun x hx => List.mem_append_left _ hx) (fun x hx => hx)
        exact
          { four := T.four, ok := T.ok, cnt := T.cnt, ndc := T.ndc
            out := fun q p hp => by
              have hp' : lk q (S.out ++ [(o, ⟨d, packsP c.sizes l⟩)]) = some p := hp
              rw [lk_append hno] at hp'
              by_cases e : q = o
              · rw [if_pos e] at hp'
                injection hp' with hp'
                subst hp'
                refine ⟨{ c with stock := List.zipWith (· - ·) c.stock l, out := c.out ++ [o] }, ?_, ?_, pl, fun s hs => packs_mem hs⟩
                · show lk d (setA d _ S.chests) = _
                  rw [lk_setA hk, if_pos rfl]
                · rw [e]
                  exact List.mem_append_right _ (by simp)
              · rw [if_neg e] at hp'
                exact T.out q p hp'
            used := fun q hq => by
              have hq' : hasB q (S.used ++ [o]) = false := hq
              rw [hasB_append, Bool.or_eq_false_iff] at hq'
              show lk q (S.out ++ [(o, _)]) = none
              rw [lk_append hno, if_neg (by simpa using hq'.2)]
              exact I.used q hq'.1
            nd := keys_append I.nd hno }
  | back o =>
    simp only [doP] at h ⊢
    cases hp : lk o S.out with
    | none => simp [hp] at h
    | some p =>
      simp only [hp] at h ⊢
      cases hk : lk p.drawer S.chests with
      | none => simp [hk] at h
      | some c =>
        simp only [hk] at h ⊢
        by_cases h1 : c.shut = true
        · rw [if_pos h1] at h; cases h
        rw [if_neg h1] at h ⊢
        cases hb : backP c.sizes p.packets c.stock with
        | none => simp [hb] at h
        | some ms =>
          simp only [hb] at h ⊢
          have K := I.ok p.drawer c hk
          have N := I.cnt p.drawer c hk
          obtain ⟨b1, b2⟩ := back_ok hb K.stk
          have fl : (c.out.filter fun x => decide (x ≠ o)).length ≤ c.out.length := List.length_filter_le _ _
          have T : Inv (n + 1) (S.set p.drawer { c with stock := ms }) :=
            I.turn hk ⟨K.srt, K.five, b1.trans K.len, K.rng, b2, K.outl, K.bou, K.eat⟩ ⟨by show c.out.length ≤ n + 1; omega, by show c.bought ≤ _; omega, by show c.eaten ≤ _; omega⟩ (fun x hx => hx) (fun x hx => hx)
          have hlk : ∀ k (x y : Chest), (lk k (setA p.drawer y S.chests) = some x ↔ (k = p.drawer ∧ x = y) ∨ (k ≠ p.drawer ∧ lk k S.chests = some x)) := fun k x y => by
            rw [lk_setA hk]
            by_cases e : k = p.drawer
            · rw [if_pos e]
              constructor
              · intro hx; injection hx with hx; exact Or.inl ⟨e, hx.symm⟩
              · rintro (⟨_, hx⟩ | ⟨hx, _⟩)
                · rw [hx]
                · exact absurd e hx
            · rw [if_neg e]
              constructor
              · intro hx; exact Or.inr ⟨e, hx⟩
              · rintro (⟨hx, _⟩ | ⟨_, hx⟩)
                · exact absurd hx e
                · exact hx
          exact
            { four := by
                have h1 := congrArg List.length (keys_setA (v := ({ c with stock := ms, out := c.out.filter fun x => decide (x ≠ o) } : Chest)) hk)
                rw [List.length_map, List.length_map] at h1
                show (setA p.drawer _ S.chests).length ≤ 4
                rw [h1]
                exact I.four
              ok := fun k x hx => by
                rcases (hlk k x _).1 hx with ⟨_, rfl⟩ | ⟨_, hx⟩
                · exact ⟨K.srt, K.five, b1.trans K.len, K.rng, b2, Nat.le_trans fl K.outl, K.bou, K.eat⟩
                · exact I.ok k x hx
              cnt := fun k x hx => by
                rcases (hlk k x _).1 hx with ⟨_, rfl⟩ | ⟨_, hx⟩
                · exact ⟨by show (c.out.filter _).length ≤ n + 1; omega, by show c.bought ≤ _; omega, by show c.eaten ≤ _; omega⟩
                · have := I.cnt k x hx
                  omega
              out := fun q r hr => by
                have hr' : lk q (delA o S.out) = some r := hr
                rw [lk_delA I.nd] at hr'
                by_cases e : q = o
                · rw [if_pos e] at hr'; cases hr'
                rw [if_neg e] at hr'
                obtain ⟨x, h1, h2, h3, h4⟩ := I.out q r hr'
                by_cases e2 : r.drawer = p.drawer
                · refine ⟨_, (hlk _ _ _).2 (Or.inl ⟨e2, rfl⟩), ?_, h3, ?_⟩
                  · rw [e2, hk] at h1
                    injection h1 with h1
                    subst h1
                    exact List.mem_filter.2 ⟨h2, by simpa using e⟩
                  · rw [e2, hk] at h1
                    injection h1 with h1
                    subst h1
                    exact h4
                · exact ⟨x, (hlk _ _ _).2 (Or.inr ⟨e2, h1⟩), h2, h3, h4⟩
              used := fun q hq => by
                show lk q (delA o S.out) = none
                rw [lk_delA I.nd]
                by_cases e : q = o
                · rw [if_pos e]
                · rw [if_neg e]
                  exact I.used q hq
              nd := delA_keys I.nd
              ndc := by
                show ((setA p.drawer _ S.chests).map (·.1)).Nodup
                rw [keys_setA hk]
                exact I.ndc }
  | moth d s =>
    obtain ⟨g1, g2⟩ := hd
    simp only [doP] at h ⊢
    cases hk : lk d S.chests with
    | none => simp [hk] at h
    | some c =>
      simp only [hk] at h ⊢
      by_cases h1 : c.shut = true
      · rw [if_pos h1] at h; cases h
      rw [if_neg h1] at h ⊢
      by_cases h2 : (!c.sizes.contains s) = true
      · rw [if_pos h2] at h; cases h
      rw [if_neg h2] at h ⊢
      by_cases h3 : c.stock.getD (pos s c.sizes) 0 = 0
      · rw [if_pos h3] at h; cases h
      rw [if_neg h3]
      have K := I.ok d c hk
      have N := I.cnt d c hk
      refine I.turn hk ⟨K.srt, K.five, by show (c.stock.set _ _).length = _; rw [List.length_set, K.len], K.rng, fun x hx => ?_, K.outl, K.bou, by show c.eaten + s ≤ _; omega⟩ ⟨by show c.out.length ≤ n + 1; omega, by show c.bought ≤ _; omega, by show c.eaten + s ≤ _; omega⟩ (fun o ho => ho) (fun x hx => hx)
      rcases List.mem_or_eq_of_mem_set hx with hx | rfl
      · exact K.stk x hx
      · have : c.stock.getD (pos s c.sizes) 0 ≤ 40 := by
          rw [List.getD_eq_getElem?_getD]
          cases hq : c.stock[pos s c.sizes]? with
          | none => simp
          | some v => exact K.stk v (List.mem_of_getElem? hq)
        omega
  | count d s k =>
    have e : (doP S (.count d s k)).2 = S := by
      simp only [doP]
      cases hk : lk d S.chests with
      | none => rfl
      | some c =>
        simp only []
        split
        · rfl
        · split <;> rfl
    rw [e]
    exact I.up (Nat.le_succ n)
  | lock d b =>
    simp only [doP] at h ⊢
    cases hk : lk d S.chests with
    | none => simp [hk] at h
    | some c =>
      simp only [hk] at h ⊢
      by_cases h1 : (c.shut && b) = true
      · rw [if_pos h1] at h; cases h
      rw [if_neg h1] at h ⊢
      by_cases h2 : (!c.shut && !b) = true
      · rw [if_pos h2] at h; cases h
      rw [if_neg h2]
      have K := I.ok d c hk
      have N := I.cnt d c hk
      exact I.turn hk ⟨K.srt, K.five, K.len, K.rng, K.stk, K.outl, K.bou, K.eat⟩ ⟨by show c.out.length ≤ n + 1; omega, by show c.bought ≤ _; omega, by show c.eaten ≤ _; omega⟩ (fun o ho => ho) (fun x hx => hx)
end
theorem dig_le {c : UInt8} (h : digC c = true) : c.toNat - 48 ≤ 9 := by
  unfold digC at h
  simp only [Bool.and_eq_true, decide_eq_true_eq] at h
  omega
theorem num_le {w : List UInt8} {n : Nat} (h : numOf w 3 = some n) : n ≤ 999 := by
  unfold numOf at h
  split at h
  · cases h
  · rename_i h1
    split at h
    · rename_i h2
      injection h with h
      subst h
      simp only [Bool.or_eq_true, not_or, decide_eq_true_eq, Nat.not_lt] at h1
      have hl := h1.1.2
      match w, hl, h2 with
      | [], _, _ => decide
      | [a], _, h2 =>
        simp only [List.all_cons, List.all_nil, Bool.and_true] at h2
        have := dig_le h2
        simp only [valL, List.foldl_cons, List.foldl_nil]
        omega
      | [a, b], _, h2 =>
        simp only [List.all_cons, List.all_nil, Bool.and_true, Bool.and_eq_true] at h2
        have := dig_le h2.1
        have := dig_le h2.2
        simp only [valL, List.foldl_cons, List.foldl_nil]
        omega
      | [a, b, c], _, h2 =>
        simp only [List.all_cons, List.all_nil, Bool.and_true, Bool.and_eq_true] at h2
        have := dig_le h2.1
        have := dig_le h2.2.1
        have := dig_le h2.2.2
        simp only [valL, List.foldl_cons, List.foldl_nil]
        omega
      | a :: b :: c :: d :: w, hl, _ => simp at hl
    · cases h
theorem fits_s {n : Nat} : fitsK 115 n = true → 1 ≤ n ∧ n ≤ 30 := by
  intro h
  simp [fitsK] at h
  omega
theorem fits_k {n : Nat} : fitsK 107 n = true → 1 ≤ n ∧ n ≤ 40 := by
  intro h
  simp [fitsK] at h
  omega
theorem fits_c {n : Nat} : fitsK 99 n = true → n ≤ 40 := by
  intro h
  simp [fitsK] at h
  omega
theorem fits_n {n : Nat} : fitsK 110 n = true → 1 ≤ n := by
  intro h
  simp [fitsK] at h
  omega
theorem len1 {α : Type} {l : List α} (h : l.length = 1) : ∃ a, l = [a] := by
  match l, h with
  | [a], _ => exact ⟨a, rfl⟩
theorem len2 {α : Type} {l : List α} (h : l.length = 2) : ∃ a b, l = [a, b] := by
  match l, h with
  | [a, b], _ => exact ⟨a, b, rfl⟩
theorem len3 {α : Type} {l : List α} (h : l.length = 3) : ∃ a b c, l = [a, b, c] := by
  match l, h with
  | [a, b, c], _ => exact ⟨a, b, c, rfl⟩
theorem kind_lt (w : List UInt8) : kindP w < 10 := by
  unfold kindP
  repeat' split
  all_goals decide
theorem args_w {ws : List (List UInt8)} {f : List UInt8} {w : List UInt8} {ns : List (List UInt8)} {xs : List Nat} {e : Int} (h : (argsP (87 :: f) (w :: ws) ns xs e).1 = 0) : argsP (87 :: f) (w :: ws) ns xs e = argsP f ws (ns ++ [w]) xs e := by
  rw [argsP] at h ⊢
  by_cases hn : isName w = true
  · simp [hn]
  · simp [hn] at h
theorem args_n {ws : List (List UInt8)} {f : List UInt8} {c : UInt8} (hc : (c == 87) = false) {w : List UInt8} {ns : List (List UInt8)} {xs : List Nat} {e : Int} (h : (argsP (c :: f) (w :: ws) ns xs e).1 = 0) :
    ∃ n, numOf w 3 = some n ∧ argsP (c :: f) (w :: ws) ns xs e = argsP f ws ns (xs ++ [n]) (if fitsK c n then e else 1) := by
  rw [argsP] at h ⊢
  rw [if_neg (by rw [hc]; decide)] at h ⊢
  cases hn : numOf w 3 with
  | none => simp [hn] at h
  | some n => exact ⟨n, rfl, rfl⟩
theorem args_end {ws : List (List UInt8)} {ns : List (List UInt8)} {xs : List Nat} {e : Int} : argsP [] ws ns xs e = (e, ns, xs) := by
  cases ws <;> rfl
theorem fit0 {b : Bool} {e : Int} (h : (if b then e else 1) = 0) : b = true ∧ e = 0 := by
  cases b
  · simp at h
  · exact ⟨rfl, by simpa using h⟩
theorem read_ok (l : List UInt8) (h : (readL l).1 = 0) : DeedOk (readL l).2 := by
  unfold readL at h ⊢
  by_cases h1 : 40 < l.length
  · rw [if_pos h1]; trivial
  rw [if_neg h1] at h ⊢
  simp only [] at h ⊢
  by_cases h2 : (!(splitL 32 l).all wordB) = true
  · rw [if_pos h2]; trivial
  rw [if_neg h2] at h ⊢
  cases hs : splitL 32 l with
  | nil => trivial
  | cons w ws =>
    simp only [hs] at h ⊢
    by_cases h3 : kindP w = 0
    · rw [if_pos h3]; trivial
    rw [if_neg h3] at h ⊢
    by_cases h4 : ws.length ≠ (formP (kindP w)).length
    · rw [if_pos h4]; trivial
    rw [if_neg h4] at h ⊢
    by_cases h5 : (argsP (formP (kindP w)) ws [] [] 0).1 ≠ 0
    · rw [if_pos h5]; trivial
    rw [if_neg h5]
    have h5 : (argsP (formP (kindP w)) ws [] [] 0).1 = 0 := by simpa using h5
    have h4 : ws.length = (formP (kindP w)).length := by simpa using h4
    have hk := kind_lt w
    generalize kindP w = k at *
    match k, hk, h3, h4, h5 with
    | 1, _, _, _, _ => trivial
    | 2, _, _, h4, h5 =>
      obtain ⟨a, b, rfl⟩ := len2 h4
      simp only [formP] at h5 ⊢
      have e0 := args_w h5
      rw [e0] at h5 ⊢
      obtain ⟨n, hn, e⟩ := args_n (by decide) h5
      rw [e, args_end] at h5 ⊢
      exact fits_s (fit0 h5).1
    | 3, _, _, h4, h5 =>
      obtain ⟨a, b, c, rfl⟩ := len3 h4
      simp only [formP] at h5 ⊢
      have e0 := args_w h5
      rw [e0] at h5 ⊢
      obtain ⟨n, hn, e⟩ := args_n (by decide) h5
      rw [e] at h5 ⊢
      obtain ⟨m, hm, e2⟩ := args_n (by decide) h5
      rw [e2, args_end] at h5 ⊢
      obtain ⟨q1, q2⟩ := fit0 h5
      exact ⟨(fits_s (fit0 q2).1).1, (fits_s (fit0 q2).1).2, fits_k q1⟩
    | 4, _, _, h4, h5 =>
      obtain ⟨a, b, c, rfl⟩ := len3 h4
      simp only [formP] at h5 ⊢
      have e0 := args_w h5
      rw [e0] at h5 ⊢
      have e0 := args_w h5
      rw [e0] at h5 ⊢
      obtain ⟨n, hn, e⟩ := args_n (by decide) h5
      rw [e, args_end] at h5 ⊢
      exact ⟨fits_n (fit0 h5).1, num_le hn⟩
    | 5, _, _, _, _ => trivial
    | 6, _, _, h4, h5 =>
      obtain ⟨a, b, rfl⟩ := len2 h4
      simp only [formP] at h5 ⊢
      have e0 := args_w h5
      rw [e0] at h5 ⊢
      obtain ⟨n, hn, e⟩ := args_n (by decide) h5
      rw [e, args_end] at h5 ⊢
      exact fits_s (fit0 h5).1
    | 7, _, _, h4, h5 =>
      obtain ⟨a, b, c, rfl⟩ := len3 h4
      simp only [formP] at h5 ⊢
      have e0 := args_w h5
      rw [e0] at h5 ⊢
      obtain ⟨n, hn, e⟩ := args_n (by decide) h5
      rw [e] at h5 ⊢
      obtain ⟨m, hm, e2⟩ := args_n (by decide) h5
      rw [e2, args_end] at h5 ⊢
      obtain ⟨q1, q2⟩ := fit0 h5
      exact ⟨(fits_s (fit0 q2).1).1, (fits_s (fit0 q2).1).2, fits_c q1⟩
    | 8, _, _, _, _ => trivial
    | 9, _, _, _, _ => trivial
/-- a book that lines have led to -/
structure BInv (b : Book) : Prop where
  inv : Inv b.lines.length b.house
  len : b.lines.length ≤ 100
theorem BInv.new : BInv Book.new := ⟨Inv.empty, Nat.zero_le _⟩
theorem BInv.done {b : Book} (I : BInv b) (line : ByteArray) : BInv (b.done line) := by
  unfold Book.done
  by_cases h : b.would line = 0
  · rw [if_pos h]
    unfold Book.would at h
    simp only [] at h
    by_cases h1 : (readP line).1 ≠ 0
    · rw [if_pos h1] at h; exact absurd h h1
    rw [if_neg h1] at h
    by_cases h2 : (doP b.house (readP line).2).1 ≠ 0
    · rw [if_pos h2] at h; exact absurd h h2
    rw [if_neg h2] at h
    have h1 : (readP line).1 = 0 := by simpa using h1
    have h2 : (doP b.house (readP line).2).1 = 0 := by simpa using h2
    by_cases h3 : b.lines.length = 100
    · rw [if_pos h3] at h; cases h
    have hl := I.len
    refine ⟨?_, ?_⟩
    · show Inv (b.lines ++ [line]).length _
      rw [List.length_append, List.length_singleton]
      exact inv_step I.inv (by omega) (read_ok _ h1) h2
    · show (b.lines ++ [line]).length ≤ 100
      rw [List.length_append, List.length_singleton]
      omega
  · rw [if_neg h]
    exact I
theorem BInv.told (ls : List ByteArray) : BInv (Book.told ls) := by
  have h : ∀ (ls : List ByteArray) (b : Book), BInv b → BInv (ls.foldl Book.done b) := by
    intro ls
    induction ls with
    | nil => exact fun b I => I
    | cons x ls ih => exact fun b I => ih _ (I.done x)
  exact h ls _ .new
theorem BInv.undo {b : Book} (I : BInv b) : BInv b.undo.2 := by
  unfold Book.undo
  by_cases h : b.lines.isEmpty = true
  · rw [if_pos h]; exact I
  · rw [if_neg h]; exact BInv.told _
end Dr
end Go.Proofs.YtbgakdpbglpfaaaGreatDoor
-- the text DrWa
namespace Go.Proofs.YtbgakdpbglpfaaaGreatDoor
namespace Dr
/-- up to m packets of s more -/
def sumW (o : List Nat) (s : Nat) : Nat → Nat → Nat
  | 0, x => o.getD x 0
  | m + 1, x => o.getD x 0 + if s ≤ x then sumW o s m (x - s) else 0
theorem sumW_small {o : List Nat} {s x : Nat} (h : x < s) (m : Nat) : sumW o s m x = o.getD x 0 := by
  cases m with
  | zero => rfl
  | succ m => rw [sumW, if_neg (by omega), Nat.add_zero]
def farW (o : List Nat) (s m x : Nat) : Nat := if (m + 1) * s ≤ x then o.getD (x - (m + 1) * s) 0 else 0
theorem sumW_next {o : List Nat} {s : Nat} (_ : 1 ≤ s) : ∀ (m x : Nat), s ≤ x → sumW o s m x + farW o s m x = o.getD x 0 + sumW o s m (x - s) := by
  intro m
  induction m with
  | zero =>
    intro x hx
    unfold farW
    rw [sumW, Nat.zero_add, Nat.one_mul, if_pos hx]
    rfl
  | succ m ih =>
    intro x hx
    rw [sumW, if_pos hx]
    by_cases h2 : s ≤ x - s
    · have h := ih (x - s) h2
      have e : farW o s m (x - s) = farW o s (m + 1) x := by
        unfold farW
        have e1 : (m + 1 + 1) * s = (m + 1) * s + s := Nat.succ_mul _ _
        rw [e1]
        by_cases h3 : (m + 1) * s ≤ x - s
        · rw [if_pos h3, if_pos (by omega)]
          congr 1
          omega
        · rw [if_neg h3, if_neg (by omega)]
      rw [sumW, if_pos h2, ← e]
      omega
    · have e1 : (m + 1 + 1) * s = m * s + s + s := by rw [Nat.succ_mul, Nat.succ_mul]
      have e : farW o s (m + 1) x = 0 := by
        unfold farW
        rw [e1, if_neg (by omega)]
      rw [sumW_small (by omega), sumW_small (by omega), e]
      omega
theorem sumW_le {o : List Nat} {s M : Nat} (ho : ∀ x, o.getD x 0 ≤ M) : ∀ (m x : Nat), sumW o s m x ≤ (m + 1) * M := by
  intro m
  induction m with
  | zero => intro x; rw [sumW, Nat.zero_add, Nat.one_mul]; exact ho x
  | succ m ih =>
    intro x
    rw [sumW]
    have h1 := ho x
    have e : (m + 1 + 1) * M = (m + 1) * M + M := Nat.succ_mul _ _
    by_cases h : s ≤ x
    · rw [if_pos h]
      have h2 := ih (x - s)
      omega
    · rw [if_neg h]
      omega
theorem sumW_pos {o : List Nat} {s : Nat} : ∀ (m x : Nat), 0 < sumW o s m x ↔ ∃ t, t ≤ m ∧ t * s ≤ x ∧ 0 < o.getD (x - t * s) 0 := by
  intro m
  induction m with
  | zero =>
    intro x
    rw [sumW]
    constructor
    · intro h
      exact ⟨0, Nat.le_refl _, by omega, by simpa using h⟩
    · rintro ⟨t, h1, _, h3⟩
      obtain rfl : t = 0 := by omega
      simpa using h3
  | succ m ih =>
    intro x
    rw [sumW]
    constructor
    · intro h
      by_cases h0 : 0 < o.getD x 0
      · exact ⟨0, Nat.zero_le _, by omega, by simpa using h0⟩
      · by_cases hs : s ≤ x
        · rw [if_pos hs] at h
          obtain ⟨t, h1, h2, h3⟩ := (ih (x - s)).1 (by omega)
          have e : (t + 1) * s = t * s + s := Nat.succ_mul _ _
          refine ⟨t + 1, by omega, by omega, ?_⟩
          rw [show x - (t + 1) * s = x - s - t * s by omega]
          exact h3
        · rw [if_neg hs] at h
          omega
    · rintro ⟨t, h1, h2, h3⟩
      cases t with
      | zero =>
        have h3 : 0 < o.getD x 0 := by simpa using h3
        omega
      | succ t =>
        have e : (t + 1) * s = t * s + s := Nat.succ_mul _ _
        have hs : s ≤ x := by omega
        rw [if_pos hs]
        have := (ih (x - s)).2 ⟨t, by omega, by omega, by rw [show x - s - t * s = x - (t + 1) * s by omega]; exact h3⟩
        omega
def wayL (o : List Nat) (s m : Nat) : List Nat := (List.range 1001).map (sumW o s m)
def way0 : List Nat := (List.replicate 1001 0).set 0 1
def waysL (ps : List (Nat × Nat)) : List Nat := ps.foldl (fun o p => wayL o p.1 p.2) way0
theorem wayL_len (o : List Nat) (s m : Nat) : (wayL o s m).length = 1001 := by unfold wayL; rw [List.length_map, List.length_range]
theorem way0_len : way0.length = 1001 := by unfold way0; rw [List.length_set, List.length_replicate]
theorem wayL_at {o : List Nat} {s m x : Nat} (hx : x < 1001) : (wayL o s m).getD x 0 = sumW o s m x := by
  unfold wayL
  rw [List.getD_eq_getElem?_getD, List.getElem?_map, List.getElem?_range hx]
  rfl
theorem waysL_snoc (ps : List (Nat × Nat)) (p : Nat × Nat) : waysL (ps ++ [p]) = wayL (waysL ps) p.1 p.2 := by
  unfold waysL
  rw [List.foldl_append, List.foldl_cons, List.foldl_nil]
theorem waysL_len (ps : List (Nat × Nat)) : (waysL ps).length = 1001 := by
  rcases List.eq_nil_or_concat ps with rfl | ⟨l, p, rfl⟩
  · rw [show waysL [] = way0 from rfl]
    exact way0_len
  · rw [List.concat_eq_append, waysL_snoc]
    exact wayL_len _ _ _
theorem way0_at (x : Nat) : way0.getD x 0 = if x = 0 then 1 else 0 := by
  unfold way0
  rw [List.getD_eq_getElem?_getD, List.getElem?_set]
  by_cases h : x = 0
  · subst h
    rw [if_pos rfl, if_pos (by rw [List.length_replicate]; omega), if_pos rfl]
    rfl
  · rw [if_neg (fun e => h e.symm), if_neg h, List.getElem?_replicate]
    by_cases h2 : x < 1001
    · rw [if_pos h2]; rfl
    · rw [if_neg h2]; rfl
theorem waysL_le {n : Nat} : ∀ ps : List (Nat × Nat), ps.length ≤ n → (∀ p ∈ ps, p.2 ≤ 40) → ∀ x, (waysL ps).getD x 0 ≤ 41 ^ n := by
  induction n with
  | zero =>
    intro ps h _ x
    obtain rfl := List.eq_nil_of_length_eq_zero (Nat.le_zero.1 h)
    show way0.getD x 0 ≤ _
    rw [way0_at]
    split <;> omega
  | succ n ih =>
    intro ps h hp x
    rcases List.eq_nil_or_concat ps with rfl | ⟨l, p, rfl⟩
    · show way0.getD x 0 ≤ _
      rw [way0_at]
      have : 0 < 41 ^ (n + 1) := Nat.pow_pos (by decide)
      split <;> omega
    · rw [List.concat_eq_append] at h hp ⊢
      rw [List.length_append, List.length_singleton] at h
      have hl := ih l (by omega) (fun q hq => hp q (List.mem_append_left _ hq))
      have hp2 := hp p (by simp)
      rw [waysL_snoc]
      by_cases hx : x < 1001
      · rw [wayL_at hx]
        refine Nat.le_trans (sumW_le hl _ _) ?_
        rw [Nat.pow_succ, Nat.mul_comm]
        exact Nat.mul_le_mul_left _ (by omega)
      · rw [List.getD_eq_getElem?_getD, List.getElem?_eq_none (by rw [wayL_len]; omega)]
        exact Nat.zero_le _
/-- do packets make up x -/
def canL : List (Nat × Nat) → Nat → Bool
  | [], x => x == 0
  | (s, m) :: ps, x => (List.range (m + 1)).any fun t => decide (t * s ≤ x) && canL ps (x - t * s)
theorem can_ways : ∀ (n : Nat) (ps : List (Nat × Nat)), ps.length = n → ∀ x, x < 1001 → (0 < (waysL ps).getD x 0 ↔ canL ps.reverse x = true) := by
  intro n
  induction n with
  | zero =>
    intro ps h x hx
    obtain rfl := List.eq_nil_of_length_eq_zero h
    show 0 < way0.getD x 0 ↔ (x == 0) = true
    rw [way0_at]
    by_cases h : x = 0 <;> simp [h]
  | succ n ih =>
    intro ps h x hx
    rcases List.eq_nil_or_concat ps with rfl | ⟨l, p, rfl⟩
    · cases h
    · rw [List.concat_eq_append] at h ⊢
      rw [List.length_append, List.length_singleton] at h
      obtain ⟨s, m⟩ := p
      rw [waysL_snoc, wayL_at hx, sumW_pos, List.reverse_append, List.reverse_singleton, List.singleton_append]
      unfold canL
      rw [List.any_eq_true]
      constructor
      · rintro ⟨t, h1, h2, h3⟩
        refine ⟨t, List.mem_range.2 (by omega), ?_⟩
        rw [Bool.and_eq_true, decide_eq_true_eq]
        exact ⟨h2, (ih l (by omega) _ (by omega)).1 h3⟩
      · rintro ⟨t, h1, h2⟩
        rw [Bool.and_eq_true, decide_eq_true_eq] at h2
        exact ⟨t, by have := List.mem_range.1 h1; omega, h2.1, (ih l (by omega) _ (by omega)).2 h2.2⟩
/-- all numbers that a drawer makes up -/
def couldL (ss ms : List Nat) : List Nat := (List.range 1001).filter (canL (ss.zip ms).reverse)
/-- the smallest one from n on: none if there is none -/
def nextP (ss ms : List Nat) (n : Nat) : Option Nat := (List.range 1001).find? fun x => decide (n ≤ x) && canL (ss.zip ms).reverse x
end Dr
end Go.Proofs.YtbgakdpbglpfaaaGreatDoor
