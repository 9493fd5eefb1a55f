/- The book's Feathers, walked. -/
import Derived.Test.YtbgakdpbglpfaaaGreatDoorDrWf
namespace Go.Proofs.YtbgakdpbglpfaaaGreatDoor
open Go.RowKit
namespace Dr
set_option linter.unusedSimpArgs false
def thereN (c : Chest) : Nat := ((c.stock.zip c.sizes).map fun p => p.1 * p.2).sum
def packsOf (S : House) (o : ByteArray) : List Nat := match lk o S.out with
  | none => []
  | some p => p.packets
def outN (S : House) (c : Chest) : Nat := (c.out.map fun o => (packsOf S o).sum).sum
/-- bought, there, out, eaten, and the error -/
def Book.feathers (B : Book) (d : ByteArray) : (Nat × Nat × Nat × Nat) × Int := match lk d B.house.chests with
  | none => ((0, 0, 0, 0), 2)
  | some c => ((c.bought, thereN c, outN B.house c, c.eaten), 0)
def feathV (r : (Nat × Nat × Nat × Nat) × Int) : Value := .tuple #[.int .i64 (r.1.1 : Int), .int .i64 (r.1.2.1 : Int), .int .i64 (r.1.2.2.1 : Int), .int .i64 (r.1.2.2.2 : Int), .int .i64 r.2]
section
variable {w w' : World} {V V' : Vals} {gb : Nat} {vl : Value} {B : Book} {S : House}
theorem HouseAt.lookP (H : HouseAt w V S) {g : Nat} (hg : V .out = .map (some g)) (o : ByteArray) :
    (Instr.lookup 108 (.map (some g)) (.string o) false).run Tryz.prog w = .ok (match lk o S.out with
      | some p => .agg #[.string p.drawer, V (.pack o)]
      | none => .agg #[.string ⟨#[]⟩, .slice none 0 0]) w := by
  obtain ⟨g', h1, h2⟩ := H.mo
  obtain rfl : g' = g := by rw [hg] at h1; injection h1 with h1; injection h1 with h1; exact h1.symm
  rw [h2.look Tryz.underlying108 Tryz.underlying9 (zero_parcelC w) o false]
  cases hl : lk o S.out <;> simp
/-- what a look-up of an order gives, found or not -/
theorem packs_any (H : HouseAt w V S) {n : Nat} (I : Inv n S) {g : Nat} (hg : V .out = .map (some g)) (o : ByteArray) :
    ∃ dv A k c, (Instr.lookup 108 (.map (some g)) (.string o) false).run Tryz.prog w = .ok (.agg #[.string dv, .slice A k c]) w ∧ (packsOf S o).length = k ∧ RInts w w.heap.size A k (natI (packsOf S o)) ∧ k ≤ 200 ∧ ∀ x ∈ packsOf S o, x ≤ 30 := by
  have hl := H.lookP hg o
  unfold packsOf
  cases hk : lk o S.out with
  | none =>
    rw [hk] at hl
    exact ⟨_, _, _, _, hl, rfl, RInts.none_, by omega, fun x hx => by cases hx⟩
  | some p =>
    rw [hk] at hl
    obtain ⟨A, c, e, _, _, hr, _⟩ := ownN_form (H.pk o p hk)
    obtain ⟨ch, hch, _, h1, h2⟩ := I.out o p hk
    replace hl : _ = Result.ok (Value.agg #[.string p.drawer, V (.pack o)]) w := hl
    rw [e] at hl
    exact ⟨_, _, _, _, hl, rfl, hr, h1, fun x hx => ((I.ok _ _ hch).rng x (h2 x hx)).2⟩
/-- the sum of the first ones -/
theorem sum_take {α : Type} (f : α → Nat) (l : List α) (i : Nat) {x : α} (h : l[i]? = some x) : ((l.take (i + 1)).map f).sum = ((l.take i).map f).sum + f x := by
  rw [List.take_add_one, h, Option.toList_some, List.map_append, List.sum_append, List.map_singleton, List.sum_singleton]
set_option maxRecDepth 100000 in
set_option maxHeartbeats 4000000 in
theorem feathers_any (H : BookAt w V gb vl B) (I : BInv B) (d : ByteArray) :
    Calls Tryz.prog 34 #[.pointer (some ⟨gb, 0, none⟩), .string d] w fun e w' => e = .returned (feathV (B.feathers d)) ∧ Below w.heap.size w w' := by
  cases hk : lk d B.house.chests with
  | none =>
    rw [show B.feathers d = ((0, 0, 0, 0), 2) by unfold Book.feathers; rw [hk]]
    have HD := Lib.hid (drawer_no H d hk)
    clear H I hk
    go_enter Tryz.func34, Tryz.ntmps34
    go_wp2_with (go_at_call 76; (with_reducible refine HD.out.mono ?_); rintro e w3 ⟨rfl, hw3⟩; replace hw3 := hw3.symm; subst hw3)
    exact bodyPost_ret (by kernel_rfl) rfl ⟨rfl, Below.refl _ _⟩
  | some c =>
    rw [show B.feathers d = ((c.bought, thereN c, outN B.house c, c.eaten), 0) by unfold Book.feathers; rw [hk]]
    have hco := I.inv.ok d c hk
    have C := H.house.ch d c hk
    obtain ⟨g, hg, hB⟩ := C.at_
    have HD := Lib.hid (drawer_yes H d hk hg)
    obtain ⟨gh, hV, hBh⟩ := H.house.hs
    obtain ⟨mo, hVo, _⟩ := H.house.mo
    have HP := Lib.hid (fun o => packs_any H.house I.inv hVo o)
    have hbk := H.bk
    rw [hV] at hbk
    have b0 : w.cell? ⟨gb, 0, none⟩ = some (.pointer (some ⟨gh, 0, none⟩)) := hbk.at_ 0 rfl
    have b2 : w.cell? ⟨gh, 2, none⟩ = some (.map (some mo)) := by rw [← hVo]; exact hBh.at_ 2 rfl
    obtain ⟨A, cs, hvs, _, _, hrs, _⟩ := ownN_form C.sizes
    obtain ⟨A2, ck, hvk, _, _, hrk, _⟩ := ownN_form C.stock
    obtain ⟨A3, co, hvo, _, _, hro, _⟩ := ownS_form C.out
    rw [hco.len] at hvk hrk
    obtain ⟨n, hn⟩ : ∃ n, c.sizes.length = n := ⟨_, rfl⟩
    obtain ⟨m, hm⟩ : ∃ m, c.out.length = m := ⟨_, rfl⟩
    rw [hn] at hvs hrs hvk hrk
    rw [hm] at hvo hro
    have c0 : w.cell? ⟨g, 0, none⟩ = some (.slice A n cs) := by rw [← hvs]; exact hB.at_ 0 rfl
    have c1 : w.cell? ⟨g, 1, none⟩ = some (.slice A2 n ck) := by rw [← hvk]; exact hB.at_ 1 rfl
    have c3 : w.cell? ⟨g, 3, none⟩ = some (.int .i64 (c.bought : Int)) := hB.at_ 3 rfl
    have c4 : w.cell? ⟨g, 4, none⟩ = some (.int .i64 (c.eaten : Int)) := hB.at_ 4 rfl
    have c5 : w.cell? ⟨g, 5, none⟩ = some (.slice A3 m co) := by rw [← hvo]; exact hB.at_ 5 rfl
    have hn5 : n ≤ 5 := by have := hco.five; omega
    have hm2 : m ≤ 200 := by have := hco.outl; omega
    have HL := Lib.hid (And.intro hn hm)
    have HCO := Lib.hid hco
    obtain ⟨th, hth⟩ : ∃ q, thereN c = q := ⟨_, rfl⟩
    obtain ⟨ou, hou⟩ : ∃ q, outN B.house c = q := ⟨_, rfl⟩
    rw [hth, hou]
    replace hth := Lib.hid hth
    replace hou := Lib.hid hou
    clear H I hk C hg hB hV hBh hVo hbk hvs hvk hvo hn hm hco
    go_enter Tryz.func34, Tryz.ntmps34
    go_wp2_with (go_at_call 76; (with_reducible refine HD.out.mono ?_); rintro e w3 ⟨rfl, hw3⟩; replace hw3 := hw3.symm; subst hw3)
    go_loopw [5, 30] (fun t v wr => ∃ i s : Nat, i ≤ n ∧ v = .int .i64 i ∧ t = .int .i64 s ∧ s ≤ 1200 * i ∧ Hid ((((c.stock.zip c.sizes).take i).map fun p => p.1 * p.2).sum = s) ∧ w = wr) (fun _ v _ => n - (intOf v).toNat)
    case atStart => exact ⟨0, 0, Nat.zero_le _, rfl, rfl, by omega, rfl, rfl⟩
    case round =>
      obtain ⟨i, s, hi, rfl, rfl, hs, hsum, hw⟩ := hrel
      subst hw
      by_cases hlt : i < n
      · have hlti : (i : Int) < n := by omega
        obtain ⟨ad, xI, rfl, _, hcx, hx⟩ := hrs.at_ hlt
        obtain ⟨x, hx2, rfl⟩ := natI_some hx.out
        obtain ⟨ad2, kI, rfl, _, hck, hkk⟩ := hrk.at_ hlt
        obtain ⟨k, hk2, rfl⟩ := natI_some hkk.out
        have hx30 := (HCO.out.rng x (List.mem_of_getElem? hx2)).2
        have hk40 := HCO.out.stk k (List.mem_of_getElem? hk2)
        have hzip : (c.stock.zip c.sizes)[i]? = some (k, x) := by rw [List.getElem?_zip_eq_some]; exact ⟨hk2, hx2⟩
        have hkx : k * x ≤ 1200 := Nat.le_trans (Nat.mul_le_mul hk40 hx30) (by decide)
        have hNX : Hid ((((c.stock.zip c.sizes).take (i + 1)).map fun p => p.1 * p.2).sum = s + k * x) := by
          rw [Hid, sum_take _ _ _ hzip, hsum.out]
        obtain ⟨p, hp⟩ : ∃ p, k * x = p := ⟨_, rfl⟩
        rw [hp] at hkx hNX
        have hwp : IntKind.i64.wrap ((k : Int) * x) = (p : Int) := by rw [show (k : Int) * x = (p : Int) by rw [← hp]; push_cast; rfl]; exact IntWalk.i64_in _ (by omega)
        have hws : IntKind.i64.wrap ((s : Int) + p) = ((s + p : Nat) : Int) := by rw [IntWalk.i64_in _ (by omega)]; omega
        obtain ⟨sp, hsp⟩ : ∃ q, s + p = q := ⟨_, rfl⟩
        rw [hsp] at hws hNX
        replace hp := Lib.hid hp
        have hi0 : (0 : Int) ≤ i := by omega
        clear hx hkk hx2 hk2 hzip
        go_wp2_with (fail)
        go_roundw
        case rel => exact ⟨i + 1, sp, by omega, by go_num, rfl, by omega, hNX, trivial⟩
        case measure => simp only [intOf]; omega
      · obtain rfl : i = n := by omega
        have hlti : ¬ (i : Int) < i := by omega
        have hTH : Hid (th = s) := by
          rw [Hid, ← hth.out, ← hsum.out, List.take_of_length_le]
          · rfl
          · rw [List.length_zip, HCO.out.len, Nat.min_self]
            have := HL.out.1
            omega
        clear hrs hrk c0 c1
        go_wp2_with (fail)
        go_loopw [6, 52] (fun t v wr => ∃ j s2 : Nat, j ≤ m ∧ v = .int .i64 j ∧ t = .int .i64 s2 ∧ s2 ≤ 6000 * j ∧ Hid (((c.out.take j).map fun o => (packsOf B.house o).sum).sum = s2) ∧ w = wr) (fun _ v _ => m - (intOf v).toNat)
        case atStart => exact ⟨0, 0, Nat.zero_le _, rfl, rfl, by omega, rfl, rfl⟩
        case round =>
          obtain ⟨j, s2, hj, rfl, rfl, hs2, hsum2, hw⟩ := hrel
          subst hw
          by_cases hlt2 : j < m
          · have hltj : (j : Int) < m := by omega
            have hj0 : (0 : Int) ≤ j := by omega
            obtain ⟨ad, o, rfl, _, hco, ho⟩ := hro.at_ hlt2
            obtain ⟨dv, A4, k, c6, hlk, hpl, hrp, hk2, hp30⟩ := HP.out o
            have hNX : Hid (((c.out.take (j + 1)).map fun o => (packsOf B.house o).sum).sum = s2 + (packsOf B.house o).sum) := by
              rw [Hid, sum_take _ _ _ ho.out, hsum2.out]
            obtain ⟨ps, hps⟩ : ∃ q, packsOf B.house o = q := ⟨_, rfl⟩
            rw [hps] at hpl hrp hp30 hNX
            replace hps := Lib.hid hps
            have HPL := Lib.hid hpl
            have HP30 := Lib.hid hp30
            have hfld : (Instr.field 105 (.agg #[.string dv, .slice A4 k c6]) 1).run Tryz.prog w = .ok (.slice A4 k c6) w := by kernel_rfl
            clear ho hpl hp30
            go_wp2_with (fail)
            go_loopw [6, 67] (fun t v wr => ∃ l s3 : Nat, l ≤ k ∧ v = .int .i64 l ∧ t = .int .i64 s3 ∧ s3 ≤ s2 + 30 * l ∧ Hid (s2 + (ps.take l).sum = s3) ∧ w = wr) (fun _ v _ => k - (intOf v).toNat)
            case atStart => exact ⟨0, s2, Nat.zero_le _, rfl, rfl, by omega, rfl, rfl⟩
            case round =>
              obtain ⟨l, s3, hl, rfl, rfl, hs3, hsum3, hw⟩ := hrel
              subst hw
              by_cases hlt3 : l < k
              · have hltl : (l : Int) < k := by omega
                have hl0 : (0 : Int) ≤ l := by omega
                obtain ⟨ad3, xI, rfl, _, hcx, hx⟩ := hrp.at_ hlt3
                obtain ⟨x, hx2, rfl⟩ := natI_some hx.out
                have hx30 := HP30.out x (List.mem_of_getElem? hx2)
                have hws : IntKind.i64.wrap ((s3 : Int) + x) = ((s3 + x : Nat) : Int) := by rw [IntWalk.i64_in _ (by omega)]; omega
                have hN3 : Hid (s2 + (ps.take (l + 1)).sum = s3 + x) := by
                  rw [Hid, List.take_add_one, hx2, Option.toList_some, List.sum_append, List.sum_singleton, ← hsum3.out]
                  omega
                obtain ⟨sp, hsp⟩ : ∃ q, s3 + x = q := ⟨_, rfl⟩
                rw [hsp] at hws hN3
                clear hx hx2
                go_wp2_with (fail)
                go_roundw
                case rel => exact ⟨l + 1, sp, by omega, by go_num, rfl, by omega, hN3, trivial⟩
                case measure => simp only [intOf]; omega
              · obtain rfl : l = k := by omega
                have hltl : ¬ (l : Int) < l := by omega
                have hN3 : Hid (((c.out.take (j + 1)).map fun o => (packsOf B.house o).sum).sum = s3) := by
                  have h3 := hsum3.out
                  rw [List.take_of_length_le (by have := HPL.out; omega)] at h3
                  rw [Hid, hNX.out, h3]
                clear hrp
                go_wp2_with (fail)
                go_roundw
                case rel => exact ⟨j + 1, s3, by omega, by go_num, rfl, by omega, hN3, trivial⟩
                case measure => simp only [intOf]; omega
          · obtain rfl : j = m := by omega
            have hltj : ¬ (j : Int) < j := by omega
            have hOU : Hid (ou = s2) := by
              rw [Hid, ← hou.out, ← hsum2.out, List.take_of_length_le (by have := HL.out.2; omega)]
              rfl
            clear hro
            go_wp2_with (fail)
            go_quiet (fail)
            go_wp2_with (fail)
            rw [hTH.out, hOU.out]
            exact bodyPost_ret (by kernel_rfl) rfl ⟨rfl, below_drewN (Below.refl _ _) _⟩
end
end Dr
end Go.Proofs.YtbgakdpbglpfaaaGreatDoor
